/-
  Part 2 of a law of desks.
  Conditions: none.
-/
import Derived.Test.YtbefoehadfnkbaaGreatDoorJourneymanCopiesM01
import Derived.WideKeyRuns
import Derived.Laws.MakeOwn
import Derived.Laws.BytesString
import Derived.Laws.IdiomStrings
import Derived.Laws.CopyRow
set_option linter.all false
open Bool renaming and_eq_true->H,false_eq_true->U,not_eq_true'->ab,or_eq_true_iff->aJ,and_true->aR,false_or->bt
open Option renaming map_eq_some_iff->I,getD_none->ah,getD_some->ai,map_none->aB,map_some->aC,isSome_none->aQ,isNone_none->a8,isNone_some->bc,bind_some->bp
open List renaming map_cons->J,getElem?_append_right->V,getElem?_append_left->W,getElem?_eq_some_iff->Y,map_nil->Z,mem_of_mem_drop->ae,all_cons->an,drop_drop->ao,length_eq_zero_iff->ap,map_set->aq,getElem?_set->ax,mem_of_getElem?->ay,size_toArray->aD,eraseIdx_eq_take_drop_succ->aE,all_eq_true->aG,length_take->aH,drop_take->aK,drop_zero->aL,getElem?_take->aM,replicate->aN,zip_cons_cons->aO,length_drop->aS,drop_eq_nil_of_le->aU,take_of_length_le->aV,append_nil->aW,length_nil->aX,drop_succ_cons->a1,mem_cons->a6,length_append->a7,ext_getElem?->be,flatMap_cons->bf,getElem?_map->bg,cons_append->bk,getElem_mem->bl,isEmpty_iff->bn,headD_cons->bq,length_map->br,mem_append->bs,map_tail->bu
open Nat renaming le_refl->S,add_sub_cancel_left->aj,add_mul->ak,mul_le_mul_right->am,zero_le->az,zero_add->aA,add_assoc->aI,lt_of_lt_of_le->aP,le_of_not_lt->aT,le_of_eq->bh,sub_self->bi,le_add_right->bo,succ_mul->bv,sub_mul->bz
open Array renaming getElem?_toList->au,getD_eq_getD_getElem?->aw,ext'->aF,getElem?_modify->aY,toList_map->bj,range->bw,map->bA
open Int renaming toNat->aZ
open Function renaming comp_def->bd
namespace Go.Am
section
variable {C:Ctx}{X:Nat->Prop}{w:World}{M:Mem}{E:Emb}{K:PV->Mem->Prop}{KP:DV->Mem->Prop}{O:Nat->Prop}
variable{P:Program}
def azg {t:TypeId}{k off:Nat}{cs:Array Value}{v:Value}(h:asf (P.underlying t) k=true)(hv:cs[off]?=some v):(part t cs off).run P w= .ok v w:=by
 have:(isAgg t).run P w= .ok false w:=by
  unfold asf at h
  split at h
  ·rename_i a;simp[isAgg,run_underlying a]
  ·rename_i a;simp[isAgg,run_underlying a]
  ·rename_i a;simp[isAgg,run_underlying a]
  ·cases h
 simp[part,this,hv]
def avG {P:Program}{xs ys:Array Value}(d:Nat):∀{fs:List Field} {ks:List Nat} {off:Nat} {l m:List DV} {t:Bool},ao5 P fs ks off=true->an3 w O (xs.toList.drop off) l->an3 w O (ys.toList.drop off) m->
  aoR ks l m=some t->(Op.eqFields (d+1) xs ys fs).run P w= .ok t w
 | [],[],off,l,m,t,_,y,A,g=>by
  cases l<;>cases m<;>simp[aoR]at g
  subst g;simp[Op.eqFields]
 |f::fs,k::ks,off,l,m,t,i,y,A,g=>by
  simp only[ao5,H,decide_eq_true_eq]at i;obtain⟨⟨⟨r,c⟩,M⟩,i⟩:=i;have step:∀{a b:DV} {o p:List DV} {t1 t2:Bool},l=a::o->m=b::p->aoR ks o p=some t2->t=(t1&&t2)->
    (∀u v,aof w O u a->aof w O v b->(Op.equalIn (d+1) f.type u v).run P w= .ok t1 w)->(Op.eqFields (d+1) xs ys (f::fs)).run P w= .ok t w:=by
   intro a b o p t1 t2 K L h2 N e;subst K;subst L;generalize G:xs.toList.drop off=xl at y;generalize J:ys.toList.drop off=yl at A;cases y with
   |cons j z=>cases A with
    |cons n B=>
     rename_i u S v T
     have C:xs[off]?=some u:=by
      have:(xs.toList.drop off)[0]?=some u:=by rw[G];rfl
      simpa using this
     have E:ys[off]?=some v:=by
      have:(ys.toList.drop off)[0]?=some v:=by rw[J];rfl
      simpa using this
     have D:xs.toList.drop (off+1)=S:=by
      rw[<-ao,G];rfl
     have F:ys.toList.drop (off+1)=T:=by
      rw[<-ao,J];rfl
     have Q:=avG (xs:=xs) (ys:=ys) d i (D▸z) (F▸B) h2;simp only[Op.eqFields,M,ne_eq,not_false_eq_true,if_true,Sem.run_bind,r,azg c C,azg c E,Result.andThen_ok,e u v j n,Sem.run_ite,Q,Sem.run_pure];cases t1<;>simp[N]
  unfold aoR at g
  split at g
  ·contradiction
  ·rename_i s R a o U b p e
   cases e
   split at g
   ·rename_i x
    subst x;rw[I]at g;obtain⟨t2,h2,q⟩:=g;refine step rfl rfl h2 q.symm fun u v j n=> ?_
    have:=j.apB;subst this;have:=n.apB;subst this;unfold asf at c
    split at c
    ·cases c
    ·rename_i h;exact run_equalIn_int w d f.type R _ a b h
    ·cases c
    ·cases c
   ·cases g
  ·rename_i s a o b p e
   cases e;rw[I]at g;obtain⟨t2,h2,q⟩:=g;refine step rfl rfl h2 q.symm fun u v j n=> ?_
   have:=j.atK;subst this;have:=n.atK;subst this;unfold asf at c
   split at c
   ·rename_i h;exact Go.run_equalIn_bool w d f.type a b h
   ·cases c
   ·cases c
   ·cases c
  ·rename_i s a o b p e
   cases e;rw[I]at g;obtain⟨t2,h2,q⟩:=g;refine step rfl rfl h2 q.symm fun u v j n=> ?_
   have:=j.auZ;subst this;have:=n.auZ;subst this;unfold asf at c
   split at c
   ·cases c
   ·cases c
   ·rename_i h;exact run_equalIn_string w d f.type a b h
   ·cases c
  ·cases g
 | [],_::_,_,_,_,_,i,_,_,_=>by simp[ao5]at i
 | _::_,[],_,_,_,_,i,_,_,_=>by simp[ao5]at i
variable{ρ:Operand->Value}{o:Oper}{x:Operand}
def aPh {op:BinOp}{neq:Bool}{ks:List Nat}{t u:TypeId}{y:Operand}(ho:o.op= .binOp op t x y u){args:List PV}(F:Sim C X w M E)(z:anW w (away X M E) M E ((opsOf o.op).map ρ) args)
  (i:an0 C.P (.binOp op t x y u) (.awZ neq ks)=true){base:Nat}(h:anG C base (.awZ neq ks) args M K KP):apo C X w M E K KP ((execOp ρ o).run C.P w):=by
 simp only[an0,H]at i;obtain⟨e,c⟩:=i
 split at c
 ·rename_i fs k
  simp only[H,ab]at c;obtain⟨⟨n,p⟩,l⟩:=c;have g:C.P.fieldsOf t=fs:=by simp[Program.fieldsOf,k]
  simp only[ho,opsOf,J,Z]at z;simp only[anG]at h
  split at h
  ·rename_i a b
   obtain⟨v,N,A,G,m⟩:=aps z;simp only[List.cons.injEq,and_true]at A;obtain⟨rfl,rfl⟩:=A
   split at h
   ·rename_i D q
    obtain⟨xs,r,I⟩:=G.toD.awF;obtain⟨ys,s,L⟩:=m.toD.awF;have f:(Op.equalIn 10000 t (.agg xs) (.agg ys)).run C.P w= .ok D w:=by
     rw[run_equalIn_agg w 9999 t xs ys (by rw[g];exact k) p,g];exact avG 9998 n (by simpa using I) (by simpa using L) q
    have B:=run_eqGuard_agg (P:=C.P) w op t x y xs ys l;have j:(execOp ρ o).run C.P w= .ok (.value (.bool (D !=neq))) w:=by
     cases op<;>simp only[ab,U]at e
     ·subst e
      simp only[execOp,ho,Sem.run_bind,r,s,B,Result.andThen_ok,run_eql_struct,f,Sem.run_pure];simp
     ·subst e
      simp only[execOp,ho,Sem.run_bind,r,s,B,Result.andThen_ok,run_neq_struct,f,Sem.run_pure];simp
    rw[j];exact .same F h (.d (.bool _))
   ·exact h.elim
  ·exact h.elim
 ·cases c
def aRs {i j:Nat}(ho:o.op= .extract x i){args:List PV}(l:Sim C X w M E)(g:anW w (away X M E) M E ((opsOf o.op).map ρ) args)
  (e:an0 C.P (.extract x i) (.ext j)=true){base:Nat}(h:anG C base (.ext j) args M K KP):apo C X w M E K KP ((execOp ρ o).run C.P w):=by
 simp only[an0,beq_iff_eq]at e;subst e;simp only[ho,opsOf,J,Z]at g;simp only[anG]at h
 split at h
 ·obtain⟨v,c,f⟩:=apf g
  simp only[List.cons.injEq,and_true]at c;subst c
  split at h
  ·rename_i d hd
   have b:=f.toD;generalize k:ρ x=v at b;cases b with
   |tup hh=>
    obtain⟨u,h1,h2⟩:=hh.get' i d hd;have a:(execOp ρ o).run C.P w= .ok (.value u) w:=by
     simp[execOp,ho,k,Instr.extract,au▸h1]
    rw[a];exact .same l h (.d h2)
  ·exact h.elim
 ·obtain⟨v,c,f⟩:=apf g
  simp only[List.cons.injEq,and_true]at c;subst c
  split at h
  ·rename_i d hd
   generalize k:ρ x=v at f;cases f with
   |tup hh=>
    obtain⟨u,h1,h2⟩:=hh.get' i d hd;have a:(execOp ρ o).run C.P w= .ok (.value u) w:=by
     simp[execOp,ho,k,Instr.extract,au▸h1]
    rw[a];exact .same l h h2
  ·exact h.elim
 ·exact h.elim
def Rep.aq0 {v:Value}{k ver skip:Nat}{A:Arr}(p:Rep w O M E v (.tsl k ver skip))(l:M.row k ver=some A):∃a cap,v= .slice a (A.elems.length - skip) cap:=by
 obtain⟨c,aFW⟩:=awq l;cases p with
 |tsl m hh=>
  obtain⟨_,h2⟩:=hh A c;obtain⟨d,_,_,h⟩:=h2 aFW;cases d with
  |some q=>
   obtain⟨i,o,e⟩:=q
   rcases h with⟨g,b,_⟩|⟨n,f,b⟩
   ·cases b;exact⟨_,_,rfl⟩
   ·cases b;exact⟨_,_,by rw[n,bi]⟩
  |none=>
   obtain⟨f,j,b⟩:=aof.aq0 h;exact⟨f,j,by rw[b];simp⟩
def aK3 {a:Array TypeId}{p:Option TypeDesc->Bool}(h:(a.size==1&&p (P.underlying (a.getD 0 0)))=true):∃t,a= #[t]/\p (P.underlying t)=true:=by
 simp only[H,beq_iff_eq]at h;obtain⟨h1,h2⟩:=h;obtain⟨t,rfl⟩:=Array.size_eq_one_iff.1 h1;exact⟨t,rfl,by simpa using h2⟩
variable{ass:Array Operand}
def aRu {argTypes:Array TypeId}(ho:o.op= .call {callee:= .builtin .len,args:=ass,argTypes}){args:List PV}(l:Sim C X w M E)(k:anW w (away X M E) M E ((opsOf o.op).map ρ) args)
  (c:an0 C.P (.call {callee:= .builtin .len,args:=ass,argTypes}) .len=true){base:Nat}(h:anG C base .len args M K KP):apo C X w M E K KP ((execOp ρ o).run C.P w):=by
 simp only[an0]at c;simp only[ho,opsOf]at k;simp only[anG]at h
 split at h
 ·rename_i p
  obtain⟨v,r,m⟩:=apf k;obtain⟨t,rfl,q⟩:=aK3 (p:=fun d=>match d with|some (.slice _)=>true| _=>false) c
  split at q
  ·rename_i e j
   have i:ass.map ρ= #[v]:=by apply aF;simpa using r
   have b:∀a n cap,v= .slice a n cap->(execOp ρ o).run C.P w= .ok (.value (.int .i64 n)) w:=by
    intro a n cap f;simp[execOp,ho,resolve,i,invoke,builtin,Builtin.len_,run_underlying j,f,goInt]
   unfold asc at h
   split at h
   ·obtain⟨a,cap,f⟩:=m.toD.aq0
    rw[b _ _ _ f];exact .same l h (.d (.int _ _))
   ·split at h
    ·rename_i A g
     obtain⟨a,cap,f⟩:=m.aq0 g;rw[b _ _ _ f];exact .same l h (.d (.int _ _))
    ·exact h.elim
   ·exact h.elim
  ·cases q
 ·exact h.elim
def aPm {argTypes:Array TypeId}(ho:o.op= .call {callee:= .builtin .len,args:=ass,argTypes}){args:List PV}(i:Sim C X w M E)(f:anW w (away X M E) M E ((opsOf o.op).map ρ) args)
  (a:an0 C.P (.call {callee:= .builtin .len,args:=ass,argTypes}) .ayM=true){base:Nat}(h:anG C base .ayM args M K KP):apo C X w M E K KP ((execOp ρ o).run C.P w):=by
 simp only[an0]at a;simp only[ho,opsOf]at f;simp only[anG]at h
 split at h
 ·rename_i s
  obtain⟨v,j,k⟩:=apf f;obtain⟨t,rfl,g⟩:=aK3 (p:=fun d=>match d with|some .string=>true| _=>false) a
  split at g
  ·rename_i e
   have c:ass.map ρ= #[v]:=by apply aF;simpa using j
   have l:=k.toD.auZ;have b:(execOp ρ o).run C.P w= .ok (.value (.int .i64 s.size)) w:=by
    simp[execOp,ho,resolve,c,invoke,builtin,Builtin.len_,run_underlying e,l,goInt]
   rw[b];exact .same i h (.d (.int _ _))
  ·cases g
 ·exact h.elim
def aDQ {mx:Bool}{b:Builtin}{argTypes:Array TypeId}(ho:o.op= .call {callee:= .builtin b,args:=ass,argTypes})(hb:(b= .max/\mx=true)\/(b= .min/\mx=false))
  {args:List PV}(j:Sim C X w M E)(i:anW w (away X M E) M E (ass.toList.map ρ) args)
  {base:Nat}(h:anG C base (.ax1 mx) args M K KP):apo C X w M E K KP ((execOp ρ o).run C.P w):=by
 simp only[anG]at h
 split at h
 ·rename_i k x n y
  obtain⟨v,u,l,m,e⟩:=aps i;have a:ass.map ρ= #[v,u]:=by apply aF;simpa using l
  have f:=m.toD.apB;have g:=e.toD.apB;have c:(execOp ρ o).run C.P w= .ok (.value (.int k (bif mx then(if y>x then y else x)else(if y<x then y else x)))) w:=by
   rcases hb with⟨rfl,rfl⟩|⟨rfl,rfl⟩
   ·simp[execOp,ho,resolve,a,invoke,builtin,Builtin.max_,Builtin.max2,f,g]
   ·simp[execOp,ho,resolve,a,invoke,builtin,Builtin.min_,Builtin.min2,f,g]
  rw[c];exact .same j h (.d (.int _ _))
 ·exact h.elim
def aMm (ho:o.op= .panic x){args:List PV}(e:Sim C X w M E)(c:anW w (away X M E) M E ((opsOf o.op).map ρ) args)
  {base:Nat}(h:anG C base .panic args M K KP):apo C X w M E K KP ((execOp ρ o).run C.P w):=by
 simp only[ho,opsOf,J,Z]at c;simp only[anG]at h
 split at h
 ·rename_i p
  obtain⟨v,f,g⟩:=apf c;simp only[List.cons.injEq,and_true]at f;subst f
  split at h
  ·rename_i t d hd
   have a:=aqx (ps:=[p]) e g hd (by simp);have b:(execOp ρ o).run C.P w= .halt (.panic (ρ x)) w:=by
    have:∃u,ρ x= .iface t u:=by
     generalize j:ρ x=v at a;cases a;exact⟨_,rfl⟩
    obtain⟨u,i⟩:=this;simp[execOp,ho,i,Instr.panic]
   rw[b];exact⟨_,_,_,h,ard e [p],arp [p] w,a⟩
  ·exact h.elim
 ·exact h.elim
variable{l:List PV}
def aze {f:Bool}{Q:Option Int->List PV->Prop}(h:aoS f l Q){vs:List Value}(hv:anW w O M E vs l):
  ∃a c b,Q a c/\anW w O M E b c/\((f=false/\a=none/\b=vs)\/∃k n,f=true/\a=some n/\vs= .int k n::b):=by
 unfold aoS at h
 split at h
 ·exact⟨none,_,vs,h,hv, .inl ⟨rfl,rfl,rfl⟩⟩
 ·cases hv with
  |cons h1 h2=>
   have:=h1.toD.apB;subst this;exact⟨some _,_,_,h,h2, .inr ⟨_,_,rfl,rfl,rfl⟩⟩
 ·exact h.elim
def awY (v:Option Value)(a:Option Int):Prop:=(v=none/\a=none)\/∃k n,v=some (.int k n)/\a=some n
def aBg {isSlice:Bool}{len cap:Nat}{lo hi mx:Option Value}{a b m:Option Int}(o:awY lo a)(hb:awY hi b)(p:awY mx m)(d:∀l,m=some l->b=some l)
  (h:0<=a.getD 0)(h1:a.getD 0<=b.getD len)(h2:b.getD len<=len)(q:len<=cap)(w:World):
  (Instr.sliceBounds isSlice len cap lo hi mx).run P w= .ok ((a.getD 0).toNat,(b.getD len).toNat,(m.map aZ).getD cap) w:=by
 rcases o with⟨rfl,rfl⟩|⟨j,e,rfl,rfl⟩<;>rcases hb with⟨rfl,rfl⟩|⟨i,nb,rfl,rfl⟩<;>rcases p with⟨rfl,rfl⟩|⟨k,nm,rfl,rfl⟩<;>
  simp only[ai,ah]at h h1 h2⊢
 ·simp[Instr.sliceBounds]
 ·have:=d _ rfl;cases this
 ·have c:nb<=(cap:Int):=by omega
  simp only[Instr.sliceBounds,Sem.run_bind,Sem.run_pure,Result.andThen_ok];rw[run_sliceBound w i nb cap _ h1 c];simp
 ·have:=d _ rfl;cases this
  have c:nb<=(cap:Int):=by omega
  have f:nb<=(nb.toNat:Int):=by omega
  simp only[Instr.sliceBounds,Sem.run_bind,Sem.run_pure,Result.andThen_ok];rw[run_sliceBound w k nb cap _ h1 c];simp only[Result.andThen_ok];rw[run_sliceBound w i nb nb.toNat _ h1 f];simp
 ·have c:e<=(len:Int):=h1
  simp only[Instr.sliceBounds,Sem.run_bind,Sem.run_pure,Result.andThen_ok];rw[run_sliceBound w j e len _ h c];simp
 ·have:=d _ rfl;cases this
 ·have c:nb<=(cap:Int):=by omega
  have g:0<=nb:=by omega
  have f:e<=(nb.toNat:Int):=by omega
  simp only[Instr.sliceBounds,Sem.run_bind,Sem.run_pure,Result.andThen_ok];rw[run_sliceBound w i nb cap _ g c];simp only[Result.andThen_ok];rw[run_sliceBound w j e nb.toNat _ h f];simp
 ·have:=d _ rfl;cases this
  have c:nb<=(cap:Int):=by omega
  have g:0<=nb:=by omega
  have f:nb<=(nb.toNat:Int):=by omega
  have n:e<=(nb.toNat:Int):=by omega
  simp only[Instr.sliceBounds,Sem.run_bind,Sem.run_pure];rw[run_sliceBound w k nb cap _ g c];simp only[Result.andThen_ok];rw[run_sliceBound w i nb nb.toNat _ g f];simp only[Result.andThen_ok];rw[run_sliceBound w j e nb.toNat _ h n];simp
def aC3 {lo hi mx:Bool}{Q:Option Int->Option Int->Option Int->Prop}
  (h:aoS lo l fun a l=>aoS hi l fun b l=>aoS mx l fun m l=>l=[]/\Q a b m){ρ:Operand->Value}{olo ohi omx:Option Operand}(h1:olo.isSome=lo)(h2:ohi.isSome=hi)(j:omx.isSome=mx)
  (hv:anW w O M E ((olo.toList++ohi.toList++omx.toList).map ρ) l):∃a b m,Q a b m/\awY (olo.map ρ) a/\awY (ohi.map ρ) b/\awY (omx.map ρ) m:=by
 obtain⟨a,l1,o,f,r1,c⟩:=aze h hv;obtain⟨b,l2,p,g,r2,d⟩:=aze f r1;obtain⟨m,n,q,⟨k,i⟩,r3,e⟩:=aze g r2;refine⟨a,b,m,i,?_⟩;subst h1 h2 j;cases olo<;>cases ohi<;>cases omx<;>simp at c d e<;>simp[awY]<;>grind
end
section
variable {C:Ctx}{X:Nat->Prop}{w:World}{M:Mem}{E:Emb}{K:PV->Mem->Prop}{KP:DV->Mem->Prop}{O:Nat->Prop}
variable{ρ:Operand->Value}{o:Oper}{x:Operand}{olo ohi omx:Option Operand}
def aPy {t:TypeId}{lo hi:Bool}(ho:o.op= .slice t x olo ohi omx){args:List PV}(q:Sim C X w M E)
  (j:anW w (away X M E) M E ((opsOf o.op).map ρ) args)(c:an0 C.P (.slice t x olo ohi omx) (.aCO lo hi)=true){base:Nat}(h:anG C base (.aCO lo hi) args M K KP):apo C X w M E K KP ((execOp ρ o).run C.P w):=by
 simp only[an0,H,beq_iff_eq]at c;obtain⟨⟨⟨k,h1⟩,h2⟩,n⟩:=c
 split at k
 ·rename_i f
  have i:omx=none:=by simpa using n
  subst i;simp only[ho,opsOf,J,bk]at j;simp only[anG]at h;unfold avN at h
  split at h
  ·rename_i s l
   cases j with
   |cons v r=>
    obtain⟨a,b,m,⟨_,y,z,A,p⟩,ba,bb,bm⟩:=aC3 h h1 h2 (omx:=none) rfl r;have u:=v.toD.auZ;have g:=aBg (P:=C.P) (isSlice:=false) ba bb (mx:=none) (m:=none) (.inl ⟨rfl,rfl⟩) (fun _ hh=>by cases hh) y z A (S _) w;have e:(execOp ρ o).run C.P w= .ok (.value (.string (s.extract (a.getD 0).toNat (b.getD s.size).toNat))) w:=by
     simp only[execOp,ho,Sem.run_bind,u,aB];rw[run_sliceAt_string w t _ _ _ _ f];simp only[Instr.slice,Sem.run_bind,run_underlying f,Result.andThen_ok,aQ,U,if_false,g,Sem.run_pure]
    rw[e];exact .same q p (.d (.str _))
  ·exact h.elim
 ·cases k
variable{v:Value}{ex:Bool}{xs:List DV}
def aof.aBj {w:World}{O:Nat->Prop}(h:aof w O v (.slice ex xs)):∃a cap,v= .slice a xs.length cap/\xs.length<=cap/\(ex=true->cap=xs.length)/\
  (xs=[]\/∃blk off sz cs T fz,a=some ⟨blk,off,none⟩/\w.heap[blk]?=some (.cells cs T fz)/\¬O blk/\(∀x∈xs,x.cells.length=sz)/\an3 w O ((cs.toList.drop off).take (xs.length*sz)) (flat xs)):=by
 cases h with
 |empty b=>exact⟨_,_,rfl,az _,b, .inl rfl⟩
 |slice c f e g d b hh=>subst e;exact⟨_,_,rfl,d,b, .inr ⟨_,_,_,_,_,_,rfl,c,f,g,hh⟩⟩
def aBi {P:Program}{t e:TypeId}{c:TypeInfo}{lo hi mx:Option Value}{a b m:Option Int}(p:P.underlying t=some (.slice e))(arX:P.info? e=some c)
  (D:∀x∈xs,x.cells.length=c.size)(hv:aof w O v (.slice ex xs))
  (L:awY lo a)(hb:awY hi b)(I:awY mx m)(h:∀r,m=some r->b=some r)(K:0<=a.getD 0)(h1:a.getD 0<=b.getD xs.length)(h2:b.getD xs.length<=xs.length):
  ∃u,(Instr.sliceAt t v lo hi mx).run P w= .ok u w/\aof w O u (.slice (mx.isSome||(ex&& !hi.isSome)) ((xs.take (b.getD xs.length).toNat).drop (a.getD 0).toNat)):=by
 have n:P.elem t=e:=by simp[Program.elem,p]
 have f:P.underlying t=some (.slice (P.elem t)):=by rw[n];exact p
 obtain⟨G,cap,rfl,k,z,aX6⟩:=hv.aBj;have j:=aBg (P:=P) (isSlice:=true) L hb I h K h1 h2 k w;have a0r:(b.getD xs.length).toNat<=(m.map aZ).getD cap/\(m.map aZ).getD cap<=cap:=by
  cases m with
  |none=>simp only[aB,ah];omega
  |some r=>have:=h r rfl;subst this;simp only[ai]at h2;simp only[aC,ai];omega
 have g:(mx.isSome||(ex&& !hi.isSome))=true->(m.map aZ).getD cap=(b.getD xs.length).toNat:=by
  intro d
  rcases I with⟨rfl,rfl⟩|⟨U,nm,rfl,rfl⟩
  ·simp only[aQ,bt,H,ab]at d
   obtain⟨E,F⟩:=d
   rcases hb with⟨rfl,rfl⟩|⟨S,nb,rfl,rfl⟩
   ·simp only[ah,aB]
    rw[z E];simp
   ·cases F
  ·have:=h nm rfl;subst this
   simp
 generalize (m.map aZ).getD cap=mv at j a0r g;have M:(a.getD 0).toNat<=(b.getD xs.length).toNat:=by omega
 have A:(b.getD xs.length).toNat<=xs.length:=by omega
 generalize (a.getD 0).toNat=l at*;generalize (b.getD xs.length).toNat=hh at*;refine⟨sliced G l hh mv c.size,?_,?_⟩
 ·rw[run_sliceAt_slice w t _ _ _ _ f,run_slice_any w t G xs.length cap f,j,n]
  simp only[Result.andThen_ok,run_sizeOf arX]
 ·simp only[sliced]
  by_cases B:l=hh
  ·have:(xs.take hh).drop l=[]:=aU (by simp;omega)
   rw[this,B,bi];exact .empty (fun d=>by rw[g d];omega)
  ·have C:mv≠l:=by omega
   rw[if_neg C]
   rcases aX6 with rfl|⟨J,R,sz,cs,T,fz,rfl,y,N,q,Q⟩
   ·simp at A;omega
   ·have o:sz=c.size:=by
     have i:0<xs.length:=by omega
     rw[<-q _ (bl i),D _ (bl i)]
    subst o;simp only[aC,Addr.add_lit];refine .slice y N (by simp;omega) (fun x d=>q x (List.mem_of_mem_take (ae d))) (by omega) (fun d=>by have:=g d;omega) ?_;rw[aK,<-aH3 (fun x d=>q x (ae d)),<-axg q];have s:=(Q.drop (l*c.size)).take ((hh - l)*c.size);rw[aK,ao,List.take_take]at s;have:(hh - l)*c.size<=xs.length*c.size - l*c.size:=by
     rw[<-bz];exact am _ (by omega)
    rw[Nat.min_eq_left this]at s;exact s
def isSome_map {α β:Type}(f:α->β)(o:Option α):(o.map f).isSome=o.isSome:=by cases o<;>rfl
def aPx {t:TypeId}{sz:Nat}{lo hi mx:Bool}(ho:o.op= .slice t x olo ohi omx){args:List PV}(z:Sim C X w M E)
  (hA:anW w (away X M E) M E ((opsOf o.op).map ρ) args)(U:an0 C.P (.slice t x olo ohi omx) (.axG sz lo hi mx)=true){base:Nat}(h:anG C base (.axG sz lo hi mx) args M K KP):apo C X w M E K KP ((execOp ρ o).run C.P w):=by
 simp only[an0,H,beq_iff_eq]at U;obtain⟨⟨⟨j,h1⟩,h2⟩,Y⟩:=U
 split at j
 ·rename_i e g
  split at j
  ·rename_i au arX
   simp only[H,beq_iff_eq,decide_eq_true_eq]at j;obtain⟨I,ay⟩:=j;subst I;have V:C.P.elem t=e:=by simp[Program.elem,g]
   have s:C.P.underlying t=some (.slice (C.P.elem t)):=by rw[V];exact g
   simp only[ho,opsOf,J,bk]at hA;simp only[anG]at h;have c:∀{u:Value},(Instr.sliceAt t (ρ x) (olo.map ρ) (ohi.map ρ) (omx.map ρ)).run C.P w= .ok u w->(execOp ρ o).run C.P w= .ok (.value u) w:=by
    intro u j;simp only[execOp,ho,Sem.run_bind,j,Result.andThen_ok,Sem.run_pure]
   unfold awV at h
   split at h
   ·rename_i ex xs l
    cases hA with
    |cons n hl=>
     obtain⟨a,b,m,⟨I,L,q2,q3,q4,y⟩,ba,bb,bm⟩:=aC3 h h1 h2 Y hl;obtain⟨u,O,i⟩:=aBi (P:=C.P) g arX I n.toD ba bb bm q4 L q2 q3;rw[c O];refine .same z y (.d ?_);simp only[isSome_map,h2,Y]at i;exact i
   ·rename_i k ver skip l
    cases hA with
    |cons n hl=>
     obtain⟨a,b,m,Q,ba,bb,bm⟩:=aC3 h h1 h2 Y hl
     split at Q
     ·rename_i A r
      obtain⟨f,aFW⟩:=awq r;have aSf:=(z.arr k A f).2.1
      split at Q
      ·obtain⟨aU2,rfl,L,q2,y⟩:=Q
       generalize hv:ρ x=v at n c;cases n with
       |tsl G hh=>
        rename_i len cap N
        obtain⟨F,an⟩:=hh A f;obtain⟨aw,h4,h5,Z⟩:=an aFW;cases aw with
        |some q=>
         obtain⟨ab,o1,e1⟩:=q;simp only at Z;have W:∀N len cap,len=A.elems.length - skip->len<=cap->(Instr.sliceAt t (.slice N len cap) (olo.map ρ) (ohi.map ρ) (omx.map ρ)).run C.P w= .ok (sliced N (a.getD 0).toNat len cap au.size) w:=by
          intro N len cap e1 e2;have aj:=aBg (P:=C.P) (isSlice:=true) ba bb bm (fun _ hh=>by cases hh) L (by simp only[ah];omega) (by simp only[ah];omega) e2 w;rw[run_sliceAt_slice w t _ _ _ _ s,run_slice_any w t N len cap s,aj,V];simp only[Result.andThen_ok,run_sizeOf arX,ah]
          congr 2
         rcases Z with⟨ax,he,hc,R⟩|⟨hn,a',he⟩
         ·cases he
          rw[c (W _ _ _ rfl hc)];simp only[sliced];have aA:(a.getD 0).toNat<=A.elems.length - skip:=by omega
          refine .same z y (.tsl G fun B p=> ?_);rw[f]at p;cases p;refine⟨F,fun _=>⟨_,h4,by omega,?_⟩⟩
          by_cases T:cap=(a.getD 0).toNat
          ·rw[if_pos T]
           refine .inr ⟨by omega,some ⟨ab,o1+skip*A.sz,none⟩,?_⟩;rw[show A.elems.length - skip - (a.getD 0).toNat=0 by omega,show cap - (a.getD 0).toNat=0 by omega]
          ·rw[if_neg T]
           refine .inl ⟨cap - (a.getD 0).toNat,?_,by omega,?_⟩
           ·simp only[aC,Addr.add_lit,aU2,ak,aI,Nat.sub_sub]
           ·rw[<-R];congr 2;omega
         ·cases he
          have ac:(a.getD 0).toNat=0:=by omega
          rw[c (W _ _ _ (by omega) (S _))];simp only[sliced,ac,if_true,bi];refine .same z y (.tsl G fun B p=> ?_);rw[f]at p;cases p;exact⟨F,fun _=>⟨_,h4,by omega, .inr ⟨by omega,_,rfl⟩⟩⟩
        |none=>
         simp only at Z;have D:(A.elems.drop skip).length=A.elems.length - skip:=by simp
         obtain⟨u,O,i⟩:=aBi (P:=C.P) g arX (fun x n=>by rw[DV.ap6 (aSf x (ae n)),aU2]) Z ba bb bm (fun _ hh=>by cases hh) L (by simp only[ah,D];omega) (by simp);rw[c O];have ap:ohi=none:=by
          rcases bb with⟨e,_⟩|⟨_,_,_,e⟩
          ·simpa using e
          ·cases e
         have a0s:omx=none:=by
          rcases bm with⟨e,_⟩|⟨_,_,_,e⟩
          ·simpa using e
          ·cases e
         subst ap a0s;simp only[aB,aQ,bt,Bool.not_false,aR,ah]at i;have ht:(((A.elems.drop skip).take ((A.elems.drop skip).length:Int).toNat).drop (a.getD 0).toNat)=A.elems.drop (skip+(a.getD 0).toNat):=by
          rw[Int.toNat_natCast,List.take_length,ao]
         rw[ht]at i;obtain⟨az,c',j⟩:=i.aq0;subst j;refine .same z y (.tsl G fun B p=> ?_);rw[f]at p;cases p;exact⟨F,fun _=>⟨none,h4,by omega,i⟩⟩
      ·rename_i b'
       obtain⟨aU2,L,q2,q3,q4,y⟩:=Q;have D:(A.elems.drop skip).length=A.elems.length - skip:=by simp
       have hd:datum M (.tsl k ver skip)=some (.slice false (A.elems.drop skip)):=by simp[datum,r]
       have am:=aqx (ps:=[PV.tsl k ver skip]) z n hd (by simp);obtain⟨u,O,i⟩:=aBi (P:=C.P) g arX (fun x n=>by rw[DV.ap6 (aSf x (ae n)),aU2]) am ba bb bm (fun m' aq=>by rw[q4 m' aq]) L (by simpa using q2) (by simp only[ai,D];omega);rw[c O];refine⟨_,_,_,y,ard z _,arp _ w, .d ?_⟩;simp only[isSome_map,h2,Y,Bool.false_and,Bool.or_false,ai]at i;exact i
     ·exact Q.elim
   ·exact h.elim
  ·cases j
 ·cases j
end
def Reads (w:World)(O:Nat->Prop)(sz:Nat)(v:Value)(ys:List DV):Prop:=
 ∃a:List Value,(∀P,(Builtin.lenOf v).run P w= .ok ys.length w)/\(∀P w',Later w w'->(Builtin.firstCells sz ys.length v).run P w'= .ok a.toArray w')/\an3 w O a (flat ys)
section
variable {C:Ctx}{X:Nat->Prop}{w:World}{M:Mem}{E:Emb}{K:PV->Mem->Prop}{KP:DV->Mem->Prop}{O:Nat->Prop}
def aBh (P:Program)(w:World)(a:Addr):(loadCells a 0).run P w= .ok #[] w:=by
 have:=run_loadCells_list (P:=P) w a [] (fun j v b=>by simp at b)
 simpa using this
variable{sz cap:Nat}
def reads_nil {a:Option Addr}:Reads w O sz (.slice a 0 cap) []:=by
 refine⟨[],fun P=>by simp[Builtin.lenOf],fun P w' _=> ?_,by simpa[flat]using .nil⟩;cases a with
 |none=>simp[Builtin.firstCells]
 |some a=>simp[Builtin.firstCells,aBh]
variable{ys:List DV}
def aIr {blk off len:Nat}{cs:Array Value}{T:TypeId}{fz:Nat×Nat}(hb:w.heap[blk]?=some (.cells cs T fz))
  (c:an3 w O ((cs.toList.drop off).take (len*sz)) (flat ys))(hl:ys.length=len)(hs:∀y∈ys,y.cells.length=sz):Reads w O sz (.slice (some ⟨blk,off,none⟩) len cap) ys:=by
 subst hl;have b:((cs.toList.drop off).take (ys.length*sz)).length=ys.length*sz:=by rw[c.length,flat_length hs]
 refine⟨_,fun P=>by simp[Builtin.lenOf],fun P w' d=> ?_,c⟩;have:=run_loadCells_list (P:=P) w' ⟨blk,off,none⟩ ((cs.toList.drop off).take (ys.length*sz)) (fun j v a=>by
  rw[Addr.add_lit,cell_of_row w' blk (off+j) cs T fz (d.aqc hb)];rw[aM]at a
  split at a
  ·rw[List.getElem?_drop]at a;simpa using a
  ·cases a)
 rw[b]at this
 simpa[Builtin.firstCells]using this
variable{v:Value}
def aBa {ex:Bool}(f:aof w O v (.slice ex ys))(hs:∀y∈ys,y.cells.length=sz):Reads w O sz v ys:=by
 cases f with
 |empty g=>exact reads_nil
 |slice e j c a i g hh=>
  rename_i d h len cap b cs T fz
  cases ys with
  |nil=>
   subst c;exact reads_nil
  |cons y ys=>
   have:b=sz:=by rw[<-a y (by simp),hs y (by simp)]
   subst this;exact aIr e hh c hs
def aQA {s:ByteArray}:Reads w O 1 (.string s) (s.data.toList.map fun b=> .int .u8 b.toNat):=by
 have c:∀l:List UInt8,flat (l.map fun b=>DV.int .u8 (b.toNat:Int))=l.map fun b=>DV.int .u8 (b.toNat:Int):=by
  intro l
  induction l with
  |nil=>rfl
  |cons b l d=>rw[J,arC,d];rfl
 have a:(s.data.toList.map fun b=>DV.int .u8 (b.toNat:Int)).length=s.size:=by simp
 refine⟨s.data.toList.map fun b=> .int .u8 b.toNat,fun P=>by rw[a];simp[Builtin.lenOf],fun P w' _=> ?_,?_⟩
 ·rw[a]
  have:s.extract 0 s.size=s:=by simp
  simp only[Builtin.firstCells,this,Sem.run_pure]
  congr 1
  apply aF;simp
 ·rw[c]
  generalize s.data.toList=l
  induction l with
  |nil=>exact .nil
  |cons b l d=>exact .cons (.int _ _) d
variable{A:Arr}
def aHd {k ver skip:Nat}(s:Sim C X w M E)(u:Rep w (away X M E) M E v (.tsl k ver skip))(r:M.row k ver=some A):
  M.anK[k]?=some (some A)/\skip<=A.elems.length/\0<A.sz/\(∀x∈A.elems,x.fits A.sz=true)/\
  ((∃(blk o e:Nat) (vs:Array Value) (T:TM vs.size) (cap:Nat),E.ar[k]?=some (some (blk,o,e))/\w.heap[blk]?=some (.cells vs T.ty T.fr)/\o+A.elems.length*A.sz<=e/\e<=vs.size/\
    an3 w (away X M E) ((vs.toList.drop o).take (A.elems.length*A.sz)) (flat A.elems)/\
    ((v= .slice (some ⟨blk,o+skip*A.sz,none⟩) (A.elems.length - skip) cap/\A.elems.length - skip<=cap/\o+(skip+cap)*A.sz=e)\/(A.elems.length=skip/\cap=0/\∃a,v= .slice a 0 0)))\/
  (E.ar[k]?=some none/\A.st≠1/\aof w (away X M E) v (.slice true (A.elems.drop skip)))):=by
 obtain⟨b,z⟩:=awq r;obtain⟨D,F,G,H⟩:=s.arr k A b;cases u with
 |tsl t hh=>
  obtain⟨_,h2⟩:=hh A b;obtain⟨f,c,p,d⟩:=h2 z;refine⟨b,p,D,F,?_⟩;cases f with
  |some q=>
   obtain⟨blk,o,e⟩:=q;obtain⟨_,vs,T,i,j,l,m⟩:=H blk o e c;simp only at d
   rcases d with⟨cap,g,h,B⟩|⟨g,a,h⟩
   ·exact .inl ⟨blk,o,e,vs,T,cap,c,i,j,l,m, .inl ⟨g,h,B⟩⟩
   ·exact .inl ⟨blk,o,e,vs,T,0,c,i,j,l,m, .inr ⟨g,rfl,a,h⟩⟩
  |none=>
   refine .inr ⟨c,fun y=> ?_,d⟩;obtain⟨q,n⟩:=G y;rw[c]at n;cases n
def row_drop {o skip:Nat}{vs:Array Value}(a:∀x∈A.elems,x.fits A.sz=true)(c:an3 w O ((vs.toList.drop o).take (A.elems.length*A.sz)) (flat A.elems)):
  an3 w O ((vs.toList.drop (o+skip*A.sz)).take ((A.elems.length - skip)*A.sz)) (flat (A.elems.drop skip)):=by
 have b:(vs.toList.drop (o+skip*A.sz)).take ((A.elems.length - skip)*A.sz)=(((vs.toList.drop o).take (A.elems.length*A.sz)).drop (skip*A.sz)):=by
  rw[aK,ao,bz]
 rw[b,<-axg (fun x d=>DV.ap6 (a x d)) skip];exact c.drop _
def aIs {k ver skip:Nat}(h:Sim C X w M E)(i:Rep w (away X M E) M E v (.tsl k ver skip))(g:M.row k ver=some A):Reads w (away X M E) A.sz v (A.elems.drop skip):=by
 obtain⟨_,h1,h2,b,f⟩:=aHd h i g;have c:∀y∈A.elems.drop skip,y.cells.length=A.sz:=fun y j=>DV.ap6 (b y (ae j))
 rcases f with⟨d,o,e,u,T,cap,q,l,r,s,m,n⟩|⟨_,_,hd⟩
 ·rcases n with⟨rfl,p,t⟩|⟨p,_,a,rfl⟩
  ·exact aIr l (row_drop b m) (by simp) c
  ·rw[aU (by omega)]
   exact reads_nil
 ·exact aBa hd c
def Reads.size {b:Nat}(h:Reads w O sz v ys)(h1:∀y∈ys,y.cells.length=sz)(h2:∀y∈ys,y.cells.length=b)(P:Program)(d:∃a n cap,v= .slice a n cap):Reads w O b v ys:=by
 cases ys with
 |nil=>
  obtain⟨a,n,cap,rfl⟩:=d;obtain⟨c,e,_,_⟩:=h;have:n=0:=by simpa[Builtin.lenOf]using e P
  subst this;exact reads_nil
 |cons y ys=>
  have:sz=b:=by rw[<-h1 y (by simp),h2 y (by simp)]
  subst this;exact h
def aGH {x:PV}(h:Sim C X w M E)(d:Rep w (away X M E) M E v x)(b:auD sz x M=some ys)(c:∀y∈ys,y.fits sz=true):Reads w (away X M E) sz v ys:=by
 have i:∀y∈ys,y.cells.length=sz:=fun y g=>DV.ap6 (c y g)
 unfold auD at b
 split at b
 ·simp only[Option.some.injEq]at b;subst b
  exact aBa d.toD i
 ·split at b
  ·rename_i f
   simp only[Option.some.injEq]at b;subst b;subst f;have:=d.toD.auZ;subst this;exact aQA
  ·cases b
 ·rw[I]at b
  obtain⟨A,e,rfl⟩:=b;have j:=(aHd h d e).2.2.2.1;obtain⟨a,cap,k⟩:=d.aq0 e;exact(aIs h d e).size (fun y g=>DV.ap6 (j y (ae g))) i C.P ⟨_,_,_,k⟩
 ·cases b
variable{P:Program}
def aQX {a:Array TypeId}{p:Option TypeDesc->Option TypeDesc->Bool}(h:(a.size==2&&p (P.underlying (a.getD 0 0)) (P.underlying (a.getD 1 0)))=true):
  ∃t u,a= #[t,u]/\p (P.underlying t) (P.underlying u)=true:=by
 simp only[H,beq_iff_eq]at h;obtain⟨h1,h2⟩:=h;obtain⟨l⟩:=a
 match l,h1 with
 | [t,u],_=>exact⟨t,u,rfl,by simpa using h2⟩
variable{ρ:Operand->Value}{o:Oper}{ass:Array Operand}
def aBs {st1:Bool}{argTypes:Array TypeId}(ho:o.op= .call {callee:= .builtin .append,args:=ass,argTypes}){args:List PV}(U:Sim C X w M E)(hA:anW w (away X M E) M E ((opsOf o.op).map ρ) args)
  (aO:an0 C.P (.call {callee:= .builtin .append,args:=ass,argTypes}) (.app sz st1)=true){base:Nat}(h:anG C base (.app sz st1) args M K KP):apo C X w M E K KP ((execOp ρ o).run C.P w):=by
 simp only[an0]at aO;simp only[ho,opsOf]at hA;simp only[anG]at h
 split at h
 ·rename_i s x
  obtain⟨v,u,he,hr,a0⟩:=aps hA;have aT:ass.map ρ= #[v,u]:=by apply aF;simpa using he
  obtain⟨sT,xT,rfl,hu⟩:=aQX (p:=fun a b=>match a,b with
   |some (.slice e),some d=>(match d with| .int _=>false| _=>true)&&(match C.P.info? e with
    |some i=>match i.zero with|some z=>i.size==sz&&decide (0<sz)&&decide (i.bytes<=1024)&&z.cells.size==sz|none=>false
    |none=>false)
   | _,_=>false) aO
  split at hu
  ·rename_i e d aQ aZs
   simp only[H]at hu;obtain⟨hd,hu⟩:=hu
   split at hu
   ·rename_i a6 arX
    split at hu
    ·rename_i z hz
     simp only[H,beq_iff_eq,decide_eq_true_eq]at hu;obtain⟨⟨⟨aP,t⟩,J⟩,aR⟩:=hu;have aN:∀k,d≠ .int k:=by rintro k rfl;cases hd
     have D:∀{r:Value} {w':World},(Builtin.append_ #[sT,xT] o.type #[v,u]).run C.P w= .ok r w'->(execOp ρ o).run C.P w= .ok (.value r) w':=by
      intro r w' hh;simp[execOp,ho,resolve,aT,invoke,builtin,hh]
     unfold aqv at h
     split at h
     ·exact h.elim
     ·rename_i ys a2
      obtain⟨_,ao,a4,h⟩:=h;have a1:∀y∈ys,y.cells.length=sz:=fun y hy=>DV.ap6 (ao y hy)
      obtain⟨j,n1,n2,n3⟩:=aGH U a0 a2 ao;have I:j.length=ys.length*sz:=by rw[n3.length,flat_length a1]
      have ax:∀v∈j,v.oneCell'=true:=n3.oneCell (by
       intro c hc;simp only[flat,List.mem_flatMap]at hc;obtain⟨y,hy,hc⟩:=hc;exact DV.aBD (ao y hy) c hc)
      have aw:∀{f O:List Value} {xs:List DV},an3 w (away X M E) f (flat xs)->(∀x∈xs,x.cells.length=sz)->
        an3 w (away X M E) ((((f++j++O).toArray).toList.drop 0).take ((xs++ys).length*sz)) (flat (xs++ys)):=by
       intro f O xs aB hx;have ac:f.length=xs.length*sz:=by rw[aB.length,flat_length hx]
       have aZ:(f++j).length=(xs++ys).length*sz:=by simp[ac,I,ak]
       rw[aL,<-aZ,List.take_left,ayZ];exact aB.append n3
      split at h
      ·rename_i ex xs
       obtain⟨rfl,an,av,hK⟩:=h;have Q:∀y∈xs,y.cells.length=sz:=fun y hy=>DV.ap6 (an y hy)
       obtain⟨f,o1,o2,o3⟩:=aBa (sz:=sz) hr.toD Q;have ac:f.length=xs.length*sz:=by rw[o3.length,flat_length Q]
       have aM:∃a,v= .slice a xs.length xs.length:=by
        have hd:=hr.toD;cases hd with
        |empty hx=>rw[hx rfl];exact⟨_,rfl⟩
        |slice hb aB hl hs hc hx hh=>rw[hx rfl,hl];exact⟨_,rfl⟩
       obtain⟨a,rfl⟩:=aM;have n:∀x∈(xs++ys),x.fits sz=true:=by
        intro x hx
        rcases bs.1 hx with hx|hx
        ·exact an x hx
        ·exact ao x hx
       rcases aGW (ty:=o.type) aQ ⟨d,aZs,aN⟩ arX hz aP J aR (n1 C.P) (n2 C.P) I (o2 C.P) ac av ax (fun h1 h2=>by omega)with⟨_,q2,q3⟩|⟨q1,q2,_⟩|⟨_,w',cap,O,q3,q4,q5,q6,q7⟩
       ·have aG:ys=[]:=ap.1 q2
        subst aG;have aE:st1=false:=by cases st1<;>simp_all
        subst aE;rw[D q3];obtain⟨t1,t2⟩:=ayl (A:=⟨sz,xs++ [],0,0⟩) (loc:=none) U (Later.refl w) t n (fun hh=>by cases hh) (fun _ _ _ hh=>by cases hh);refine⟨_,_,_,hK,t1,t2, .tsl (by simp) fun B G=> ?_⟩;have m:B=⟨sz,xs++ [],0,0⟩:=by simp at G;simp[G]
        subst m;refine⟨S _,fun _=>⟨none,by simp[<-U.aoc],az _,?_⟩⟩;have:=hr.toD.from t2
        simpa using this
       ·omega
       ·rw[D q3]
        have ab:(xs++ys).length=xs.length+ys.length:=by simp
        obtain⟨t1,t2⟩:=ayl (A:=⟨sz,xs++ys,0,bif st1 then 1 else 0⟩) (loc:=some (w.heap.size,0,cap*sz)) U q5 t n (fun _ hh=>by cases hh) (fun l R e' hh=>by
         cases hh;refine⟨S _,_, .zero _ _,q6,?_,?_,aw o3 Q⟩
         ·show 0+(xs++ys).length*sz<=cap*sz
          rw[aA,ab];exact am _ q4
         ·rw[aD,q7];exact S _)
        refine⟨_,_,_,hK,t1,t2, .tsl (by simp) fun B G=> ?_⟩;have m:B=⟨sz,xs++ys,0,bif st1 then 1 else 0⟩:=by simp at G;simp[G]
        subst m;refine⟨S _,fun _=>⟨some (w.heap.size,0,cap*sz),by simp[<-U.aoc],az _, .inl ⟨cap,?_,?_,?_⟩⟩⟩
        ·simp
        ·simpa using q4
        ·simp
      ·rename_i k ver skip
       split at h
       ·rename_i A L
        obtain⟨rfl,au,av,hK⟩:=h;obtain⟨W,a07,_,ay,aY1⟩:=aHd U hr L;have aK:=fun _:Unit=>aY1
        clear aY1;have an:∀y∈A.elems.drop skip,y.fits A.sz=true:=fun y hy=>ay y (ae hy)
        have Q:∀y∈A.elems.drop skip,y.cells.length=A.sz:=fun y hy=>DV.ap6 (an y hy)
        obtain⟨f,o1,o2,o3⟩:=aIs U hr L;have Z:(A.elems.drop skip).length=A.elems.length - skip:=by simp
        have ac:f.length=(A.elems.length - skip)*A.sz:=by rw[o3.length,flat_length Q,Z]
        have aXZ:k<M.anK.length:=(Y.1 W).1;have aFW:=(awq L).2;have aOo:A.ver<ver+1:=by omega
        have n:∀x∈(A.elems.drop skip++ys),x.fits A.sz=true:=by
         intro x hx
         rcases bs.1 hx with hx|hx
         ·exact an x hx
         ·exact ao x hx
        obtain⟨a,q,hv⟩:=hr.aq0 L;subst hv;rw[Z]at o2;have N:∀{B A':Arr},(M.anK.set k (some A'))[k]?=some (some B)->B=A':=by
         intro B A' G;simp[aXZ]at G;exact G.symm
        have aq:k<(M.anK.set k (some (⟨A.sz,A.elems.drop skip++ys,ver+1,bif st1 then 1 else A.st⟩:Arr))).length:=by simpa using aXZ
        have hE:∀aJ,(E.ar.set k aJ)[k]?=some aJ:=fun aJ=>by simp[U.aoc,aXZ]
        have ah:Unit->A.elems.length - skip+ys.length<=q->ys.length≠0->∃(l o e:Nat) (F:Array Value) (T:TM F.size),E.ar[k]?=some (some (l,o,e))/\w.heap[l]?=some (.cells F T.ty T.fr)/\o+A.elems.length*A.sz<=e/\e<=F.size/\
          an3 w (away X M E) ((F.toList.drop o).take (A.elems.length*A.sz)) (flat A.elems)/\a=some ⟨l,o+skip*A.sz,none⟩/\o+(skip+q)*A.sz=e:=by
         intro _ h1 h2
         rcases aK ()with⟨l,o,e,F,T,cap,p1,p2,p3,p4,p5,p6⟩|⟨_,_,hd⟩
         ·rcases p6 with⟨hh,p7,p8⟩|⟨_,_,a',hh⟩
          ·cases hh;exact⟨l,o,e,F,T,p1,p2,p3,p4,p5,rfl,p8⟩
          ·simp only[Value.slice.injEq]at hh
           omega
         ·obtain⟨a',c',aX,_,aV,_⟩:=hd.aBj
          simp only[Value.slice.injEq]at aX;have:=aV rfl;omega
        rcases aGW (ty:=o.type) aQ ⟨d,aZs,aN⟩ arX hz aP J aR (n1 C.P) (n2 C.P) I (o2 C.P) ac (by omega) ax (fun h1 h2=>by
          obtain⟨l,R,e',F,T,p1,p2,p3,p4,p5,p6,p7⟩:=ah () h1 h2;refine⟨l,_,F,T,p6,p2,?_⟩;rw[I,aI,<-ak,aI,<-ak];have:(skip+(A.elems.length - skip+ys.length))*A.sz<=(skip+q)*A.sz:=am _ (by omega);omega)with⟨q1,q2,q3⟩|⟨q1,q2,w',g,og,a5,T,q3,q4,q5,q6⟩|⟨_,w',cap,O,q3,q4,q5,q6,q7⟩
        ·have aG:ys=[]:=ap.1 q2
         subst aG;have aE:st1=false:=by cases st1<;>simp_all
         subst aE;rw[D q3]
         rcases aK ()with⟨l,o,e,F,T,cap,p1,p2,p3,p4,p5,p6⟩|⟨p1,p2,hd⟩
         ·obtain⟨t1,t2⟩:=awu (A':=⟨A.sz,A.elems.drop skip++ [],ver+1,A.st⟩) (loc:=some (l,o+skip*A.sz,e)) U W au rfl rfl rfl (S _) (fun _ _ _ hh=>hh) aOo t n (fun _ hh=>by cases hh) (fun V R e' hh=>by
           cases hh;refine⟨.inr ⟨o,e,p1⟩,F,T,p2,?_,p4,?_⟩
           ·simp only[aW,Z]
            have:skip*A.sz+(A.elems.length - skip)*A.sz=A.elems.length*A.sz:=by rw[<-ak];congr 1;omega
            omega
           ·simp only[aW,Z]
            exact row_drop ay p5)
          refine⟨_,_,_,hK,t1,t2, .tsl aq fun B G=> ?_⟩;have m:=N G;subst m;refine⟨S _,fun _=>⟨_,hE _,az _,?_⟩⟩
          rcases p6 with⟨hh,p7,p8⟩|⟨p7,_,a',hh⟩
          ·simp only[Value.slice.injEq]at hh
           obtain⟨rfl,_,rfl⟩:=hh;refine .inl ⟨q,?_,?_,?_⟩
           ·simp
           ·simpa using p7
           ·simp only[aA];rw[aI,<-ak];exact p8
          ·simp only[Value.slice.injEq]at hh
           obtain⟨rfl,h2,rfl⟩:=hh;refine .inr ⟨by simp;omega,a,?_⟩;rw[h2];rfl
         ·obtain⟨t1,t2⟩:=awu (A':=⟨A.sz,A.elems.drop skip++ [],ver+1,A.st⟩) (loc:=none) U W au rfl rfl rfl (S _) (fun _ _ _ hh=>hh) aOo t n (fun hh=>absurd hh p2) (fun V R e' hh=>by cases hh)
          refine⟨_,_,_,hK,t1,t2, .tsl aq fun B G=> ?_⟩;have m:=N G;subst m;refine⟨S _,fun _=>⟨_,hE _,az _,?_⟩⟩;have:=hd.from t2
          simpa using this
        ·obtain⟨l,R,e',F,T',p1,p2,p3,p4,p5,p6,p7⟩:=ah () q1 q2
         rw[p6]at q4;simp only[Option.some.injEq,Addr.mk.injEq]at q4;obtain⟨rfl,rfl,_⟩:=q4;rw[p2]at q5;simp only[Option.some.injEq,Obj.cells.injEq]at q5;obtain⟨rfl,_,_⟩:=q5;rw[D q3];have a3:skip*A.sz+(A.elems.length - skip)*A.sz=A.elems.length*A.sz:=by rw[<-ak];congr 1;omega
         have aZi:(A.elems.drop skip++ys).length*A.sz=(A.elems.length - skip)*A.sz+ys.length*A.sz:=by rw[a7,Z,ak]
         have aY:(skip+(A.elems.length - skip+ys.length))*A.sz<=(skip+q)*A.sz:=am _ (by omega);rw[ak,ak (A.elems.length - skip)]at aY;have ai:F.toList.length=F.size:=by simp
         obtain⟨t1,t2⟩:=awu (A':=⟨A.sz,A.elems.drop skip++ys,ver+1,bif st1 then 1 else A.st⟩) (loc:=some (l,R+skip*A.sz,e')) U W au q6.os q6.tape q6.output (bh q6.size.symm)
          (fun b ob hb aC=>q6.aqc (fun aU=>hb R e' (aU▸p1)) aC) aOo t n (fun _ hh=>by cases hh) (fun V o2 e2 hh=>by
           cases hh;refine⟨.inr ⟨R,e',p1⟩,_,T.cast (by have hz:=length_splice F.toList (R+skip*A.sz+(A.elems.length - skip)*A.sz) j (by rw[I,ai];omega);simpa using hz.symm),q6.at_,?_,?_,?_⟩
           ·show R+skip*A.sz+(A.elems.drop skip++ys).length*A.sz<=e'
            omega
           ·rw[aD,length_splice _ _ _ (by rw[I,ai];omega),ai];exact p4
           ·show an3 w _ ((((splice F.toList (R+skip*A.sz+(A.elems.length - skip)*A.sz) j).toArray).toList.drop (R+skip*A.sz)).take ((A.elems.drop skip++ys).length*A.sz)) (flat (A.elems.drop skip++ys))
            rw[List.toList_toArray,awK _ _ _ _ (by omega) (by rw[ai];omega),aj,ayZ];have e1:(splice (F.toList.drop (R+skip*A.sz)) ((A.elems.length - skip)*A.sz) j).take ((A.elems.drop skip++ys).length*A.sz)=(F.toList.drop (R+skip*A.sz)).take ((A.elems.length - skip)*A.sz)++j:=by
             unfold splice;refine List.take_left' ?_;rw[a7,aH,aS,aZi,I,ai];omega
            rw[e1];exact(row_drop ay p5).append n3)
         refine⟨_,_,_,hK,t1,t2, .tsl aq fun B G=> ?_⟩;have m:=N G;subst m;refine⟨S _,fun _=>⟨_,hE _,az _, .inl ⟨q,?_,?_,?_⟩⟩⟩
         ·simp[p6]
         ·simpa using q1
         ·simp only[aA];rw[aI,<-ak];exact p7
        ·rw[D q3]
         have ab:(A.elems.drop skip++ys).length=A.elems.length - skip+ys.length:=by simp
         obtain⟨t1,t2⟩:=awu (A':=⟨A.sz,A.elems.drop skip++ys,ver+1,bif st1 then 1 else A.st⟩) (loc:=some (w.heap.size,0,cap*A.sz)) U W au q5.os q5.tape q5.output q5.size
          (fun b ob _ aC=>q5.aqc aC) aOo t n (fun _ hh=>by cases hh) (fun V o2 e2 hh=>by
           cases hh;refine⟨.inl (S _),_, .zero _ _,q6,?_,?_,aw o3 Q⟩
           ·show 0+(A.elems.drop skip++ys).length*A.sz<=cap*A.sz
            rw[aA,ab];exact am _ q4
           ·rw[aD,q7];exact S _)
         refine⟨_,_,_,hK,t1,t2, .tsl aq fun B G=> ?_⟩;have m:=N G;subst m;refine⟨S _,fun _=>⟨_,hE _,az _, .inl ⟨cap,?_,?_,?_⟩⟩⟩
         ·simp
         ·simpa using q4
         ·simp
       ·exact h.elim
      ·exact h.elim
    ·cases hu
   ·cases hu
  ·cases hu
 ·exact h.elim
def aKp {argTypes:Array TypeId}(ho:o.op= .call {callee:= .builtin .append,args:=ass,argTypes}):
  (execOp ρ o).run P w=match(Builtin.append_ argTypes o.type (ass.map ρ)).run P w with| .ok r w'=> .ok (.value r) w'| .halt a b=> .halt a b:=by
 simp[execOp,ho,resolve,invoke,builtin];cases(Builtin.append_ argTypes o.type (ass.map ρ)).run P w<;>rfl
def aPg {argTypes:Array TypeId}(ho:o.op= .call {callee:= .builtin .append,args:=ass,argTypes}){args:List PV}(y:Sim C X w M E)(u:anW w (away X M E) M E ((opsOf o.op).map ρ) args)
  (f:an0 C.P (.call {callee:= .builtin .append,args:=ass,argTypes}) (.aHi sz)=true){base:Nat}(h:anG C base (.aHi sz) args M K KP):apo C X w M E K KP ((execOp ρ o).run C.P w):=by
 have f:∀b,an0 C.P (.call {callee:= .builtin .append,args:=ass,argTypes}) (.app sz b)=true:=fun b=>by simp only[an0]at f⊢;exact f
 rcases args with _|⟨s,_|⟨x,_|⟨z,l⟩⟩⟩
 ·exact h.elim
 ·exact h.elim
 case cons.cons.cons=>exact h.elim
 change aCE sz s x M K at h
 unfold aCE at h
 split at h
 case h_2=>exact h.elim
 rename_i ys g
 cases c:ys.isEmpty
 ·rw[c]at h
  have j:ys≠[]:=fun e=>by rw[e]at c;cases c
  refine aBs (st1:=true) (base:=0) ho y u (f _) ?_;simp only[anG,aqv,g];exact⟨h.1,h.2.1,fun _=>j,trivial,fun _ h=>(by cases h),by simpa using h.2.2.1,h.2.2.2⟩
 ·rw[c]at h
  rw[bn]at c;subst c;have h2:anG C 0 (.app sz false) [.d (.slice true []),x] M (fun v N=>(∃n,v= .tsl n 0 0/\N.anK[n]?=some (some ⟨sz,[],0,0⟩))/\K (.d (.slice false [])) N) KP:=by
   simp only[anG,aqv,g];exact⟨h.1,h.2.1,fun e=>(by cases e),trivial,fun _ h=>(by cases h),by simp,⟨_,rfl,by simp⟩,h.2.2.2⟩
  have i:=aBs (st1:=false) ho y u (f _) h2;rw[aKp ho]at i⊢;cases B:(Builtin.append_ argTypes o.type (ass.map ρ)).run C.P w with
  |ok r w'=>
   rw[B]at i;obtain⟨p,D,E',⟨⟨n,rfl,H⟩,F⟩,J,L,O⟩:=i;refine⟨_,D,E',F,J,L, .d ?_⟩;cases O with
   |tsl G hh=>
    obtain⟨m,T,U,t⟩:=(hh _ H).2 rfl;cases m with
    |none=>
     simp only[List.drop_nil]at t;cases t with
     |empty I=>exact .empty (fun e=>by cases e)
     |slice Q ho A S R I hh=>
      simp only[aX]at A;subst A;exact .empty (fun e=>by cases e)
    |some q=>
     rcases t with⟨cap,k,_⟩|⟨_,a,k⟩
     ·cases k;exact .empty (fun e=>by cases e)
     ·cases k;exact .empty (fun e=>by cases e)
  |halt a b=>
   rw[B]at i;cases a<;>exact i
def apo.frz {r:Result Next}(h:apo C X w M E (fun v M'=>∃d,datum M' v=some d/\K (.d d) (M'.frz [v])) KP r):apo C X w M E K KP r:=by
 cases r with
 |ok n w'=>
  cases n with
  |value v=>
   obtain⟨pv,M',E',⟨d,hd,i⟩,h1,h2,j⟩:=h;exact⟨_,_,E',i,ard h1 [pv],h2.trans (arp [pv] w'), .d (aqx (ps:=[pv]) h1 j hd (by simp))⟩
  |skip=>
   obtain⟨M',E',⟨d,hd,i⟩,_⟩:=h;simp[datum]at hd
  |enter f a=>
   obtain⟨e,B,p,o⟩:=h;refine⟨e,B,fun y D s k A z=>(p y D s k A z).mono fun m q g=> ?_,o⟩;cases m with
   |returned v=>
    obtain⟨pv,M',E',⟨d,hd,i⟩,h1,h2,j⟩:=g;exact⟨_,_,E',i,ard h1 [pv],h2.trans (arp [pv] q), .d (aqx (ps:=[pv]) h1 j hd (by simp))⟩
   |panicked c=>exact g
   |outgrown=>exact g
  |round l f t a b=>
   obtain⟨e,o⟩:=h;refine⟨e,o.mono fun m q g=> ?_⟩;cases m with
   |returned v=>
    obtain⟨pv,M',E',⟨d,hd,i⟩,h1,h2,j⟩:=g;exact⟨_,_,E',i,ard h1 [pv],h2.trans (arp [pv] q), .d (aqx (ps:=[pv]) h1 j hd (by simp))⟩
   |panicked c=>exact g
   |outgrown=>exact g
  | _=>exact h.elim
 |halt x w'=>
  cases x with
  |panic u=>exact h
  | _=>exact h.elim
def aPf {argTypes:Array TypeId}(ho:o.op= .call {callee:= .builtin .append,args:=ass,argTypes}){args:List PV}(g:Sim C X w M E)(f:anW w (away X M E) M E ((opsOf o.op).map ρ) args)
  (b:an0 C.P (.call {callee:= .builtin .append,args:=ass,argTypes}) (.aJV sz)=true){base:Nat}(h:anG C base (.aJV sz) args M K KP):apo C X w M E K KP ((execOp ρ o).run C.P w):=by
 have a:an0 C.P (.call {callee:= .builtin .append,args:=ass,argTypes}) (.app sz false)=true:=b;have e:anG C base (.app sz false) args M (fun v c=>∃d,datum c v=some d/\K (.d d) (c.frz [v])) KP:=h;exact apo.frz (aBs ho g f a e)
end
variable{w w':World}{O O':Nat->Prop}
def aH2:∀{cs:List DV} {vs:List Value},(cs.all fun| .int _ _=>true| .bool _=>true| .str _=>true| _=>false)=true->an3 w O vs cs->an3 w' O' vs cs:=by
 intro cs
 induction cs with
 |nil=>intro vs _ h;cases h;exact .nil
 |cons c cs d=>
  intro vs h b;cases b with
  |cons h1 t=>
   simp only[an,H]at h;refine .cons ?_ (d h.2 t);have a:=h.1;cases h1<;>first|exact .int _ _|exact .bool _|exact .str _|(simp at a)
def aPS:∀{cs:List DV} {vs:List Value},(cs.all fun| .int _ _=>true| .bool _=>true| .str _=>true| .agg cs=>(cs.all fun| .int _ _=>true| .bool _=>true| .str _=>true| _=>false)| _=>false)=true->
  an3 w O vs cs->an3 w' O' vs cs:=by
 intro cs
 induction cs with
 |nil=>intro vs _ h;cases h;exact .nil
 |cons c cs d=>
  intro vs h b;cases b with
  |cons h1 t=>
   simp only[an,H]at h;refine .cons ?_ (d h.2 t);have a:=h.1;cases h1<;>first|exact .int _ _|exact .bool _|exact .str _|(rename_i hh;exact .agg (aH2 a hh))|(simp at a)
def aFO {v:Value}{x:DV}(h:av2 x=true)(a:aof w O v x):aof w' O' v x:=by
 cases a with
 |int k n=>exact .int _ _
 |bool b=>exact .bool _
 |str s=>exact .str _
 |nilPtr=>exact .nilPtr
 |nilIface=>exact .nilIface
 |nilFunc=>exact .nilFunc
 |agg hh=>exact .agg (aH2 h hh)
 |tup hh=>exact .tup (aPS h hh)
 | _=>simp[av2]at h
section
variable {C:Ctx}{X:Nat->Prop}{w w':World}{M:Mem}{E E':Emb}{K:PV->Mem->Prop}{KP:DV->Mem->Prop}{O:Nat->Prop}
variable{P:Program}{f:FuncId}
def auh {args:Array Value}(h:callable P f=true)(w:World):(callFunc f args).run P w= .ok (.enter f args) w:=by
 unfold callable at h
 split at h
 ·rename_i fn a
  simp only[H,ab]at h;obtain⟨h1,h2⟩:=h;have b:fn.body.isNone=false:=by cases c:fn.body<;>simp_all
  simp only[callFunc,Sem.run_bind,run_program,Result.andThen_ok,a,h2,b,U,if_false,Sem.run_pure]
 ·cases h
variable{args:List PV}
def aLD {base:Nat}(h:anG C base (.aBp f) args M K KP):SC C f args M K KP:=by
 obtain⟨p,m,h1,h2⟩:=h;intro X w E a l k;refine(h1 X w E a l k).mono fun e w' b=> ?_
 cases e with
 |returned v=>
  obtain⟨q,j,i,⟨rfl,rfl⟩,g⟩:=b;exact⟨_,_,i,h2,g⟩
 |panicked c=>
  obtain⟨v,d,j,i,_,hh,_⟩:=b;exact hh.elim
 |outgrown=>exact b.elim
variable{ρ:Operand->Value}{o:Oper}
def avP {argTypes:Array TypeId}{ass:Array Operand}(ho:o.op= .call {callee:= .value (.func f),args:=ass,argTypes})(d:ρ (.func f)= .func (.func f) #[] #[])
  {args:List PV}(c:anW w (away X M E) M E ((opsOf o.op).map ρ) args)(b:callable C.P f=true)(h:SC C f args M K KP):apo C X w M E K KP ((execOp ρ o).run C.P w):=by
 simp only[ho,opsOf]at c;have a:(execOp ρ o).run C.P w= .ok (.enter f (ass.map ρ)) w:=by
  simp[execOp,ho,resolve,d,Deferred.ofValue,invoke,auh b]
 rw[a];exact⟨rfl,args,h,by simpa using c⟩
def aMg {t:Tmp}{argTypes:Array TypeId}{ass:Array Operand}(ho:o.op= .call {callee:= .value (.tmp t),args:=ass,argTypes})(s:Sim C X w M E)
  {args:List PV}(l:anW w (away X M E) M E ((opsOf o.op).map ρ) args){base:Nat}(h:anG C base .aqg args M K KP):apo C X w M E K KP ((execOp ρ o).run C.P w):=by
 simp only[ho,opsOf,J]at l;simp only[anG]at h;have j:∀{f:FuncId} {F G:Array Value},ρ (.tmp t)= .func (.func f) F G->callable C.P f=true->(execOp ρ o).run C.P w= .ok (.enter f (F++ass.map ρ++G)) w:=by
  intro f F G x c;simp[execOp,ho,resolve,x,Deferred.ofValue,invoke,auh c]
 split at h
 ·rename_i f fs cs q
  obtain⟨c,h⟩:=h;cases l with
  |cons h1 h2=>
   have hd:=h1.toD;generalize i:ρ (.tmp t)=v at hd;cases hd with
   |func n m=>
    rw[j i c];refine⟨rfl,_,h,?_⟩;have:=((anW.ofD (M:=M) (E:=E) n).append h2).append (anW.ofD (M:=M) (E:=E) m)
    simpa using this
 ·rename_i f fs cs q
  obtain⟨c,h⟩:=h;cases l with
  |cons h1 h2=>
   generalize i:ρ (.tmp t)=v at h1;cases h1 with
   |func n m=>
    rw[j i c];refine⟨rfl,_,h,?_⟩;have:=(n.append h2).append m
    simpa using this
 ·rename_i b q
  cases l with
  |cons h1 h2=>
   generalize i:ρ (.tmp t)=v at h1;cases h1 with
   |asz z u y=>
    rename_i d cs
    obtain⟨fn,k,a,e,p,r⟩:=h X w E _ d s h2 u;have g:(execOp ρ o).run C.P w= .ok (.round d fn k a e) w:=by
     rw[show(ass.toList.map ρ).toArray=ass.map ρ by rw[<-bj]]at p;simp[execOp,ho,resolve,i,Deferred.ofValue,invoke];exact p
    rw[g];exact⟨rfl,r⟩
 ·exact h.elim
variable{a:Option Addr}
def run_equalIn_slice_nil {t e:TypeId}{n cap:Nat}(b:P.underlying t=some (.slice e))(w:World)(d:Nat):(Op.equalIn (d+1) t (.slice a n cap) (.slice none 0 0)).run P w= .ok a.isNone w:=by
 cases a<;>simp only[Op.equalIn,Sem.run_bind,run_underlying b,Result.andThen_ok,Sem.run_pure,a8,bc]
def run_equal_slice_nil {t e:TypeId}{n cap:Nat}(b:P.underlying t=some (.slice e))(w:World):(Op.equal t (.slice a n cap) (.slice none 0 0)).run P w= .ok a.isNone w:=run_equalIn_slice_nil b w 9999
variable{op:BinOp}{x y:Operand}
def aCJ {t:TypeId}{n cap:Nat}{v:Value}(w:World):(eqGuard op t x y (.slice a n cap) v).run P w= .ok () w:=by
 unfold eqGuard;simp<;>split<;>simp
def aMi {neq:Bool}{t u:TypeId}(ho:o.op= .binOp op t x y u)(m:∀v,ρ (.const v)=v){args:List PV}(q:Sim C X w M E)(p:anW w (away X M E) M E ((opsOf o.op).map ρ) args)
  (f:an0 C.P (.binOp op t x y u) (.isNil neq)=true){base:Nat}(h:anG C base (.isNil neq) args M K KP):apo C X w M E K KP ((execOp ρ o).run C.P w):=by
 simp only[an0,H]at f;obtain⟨⟨b,i⟩,A⟩:=f
 split at i
 ·rename_i e k
  split at A
  ·simp only[ho,opsOf,J,Z,m]at p
   simp only[anG]at h
   split at h
   ·rename_i ex xs
    obtain⟨v,G,r,D,F⟩:=aps p;simp only[List.cons.injEq,and_true]at r;obtain⟨rfl,_⟩:=r;obtain⟨a,cap,z,_,_,j⟩:=D.toD.aBj;have c:=run_equal_slice_nil (P:=C.P) (a:=a) (n:=xs.length) (cap:=cap) k w;have s:=aCJ (P:=C.P) (op:=op) (t:=t) (x:=x) (y:= .const (.slice none 0 0)) (a:=a) (n:=xs.length) (cap:=cap) (v:= .slice none 0 0) w;have g:(execOp ρ o).run C.P w= .ok (.value (.bool (a.isNone !=neq))) w:=by
     cases op<;>simp only[ab,U]at b
     ·subst b
      simp only[execOp,ho,Sem.run_bind,m,z,s,Result.andThen_ok,binOp,c,Sem.run_pure];simp
     ·subst b
      simp only[execOp,ho,Sem.run_bind,m,z,s,Result.andThen_ok,binOp,c,Sem.run_pure];simp
    rw[g]
    by_cases l:xs=[]
    ·exact .same q (h.2 l _) (.d (.bool _))
    ·have B:a.isNone=false:=by
      rcases j with hh|⟨_,_,_,_,_,_,rfl,_⟩
      ·exact absurd hh l
      ·rfl
     rw[B];exact .same q (by simpa using h.1 l) (.d (.bool _))
   ·exact h.elim
  ·cases A
 ·cases i
def From.awO {M':Mem}(h:From w aok ⟨[],[]⟩ w' M' E'):Later w w':=
 ⟨h.os,h.tape,h.output,h.size,fun b c=>by
  obtain⟨o,a⟩:∃o,w.heap[b]?=some o:=⟨_,Array.getElem?_eq_getElem c⟩
  rw[a,h.keep b o (by rintro(⟨i,cs,h1,_⟩|⟨k,A,o,e,h1,_⟩)<;>simp[aok]at h1) a]⟩
variable{ass:List Arr}
def aGh {b:Nat}(hl:E.ar.length=M.anK.length):
  owned {M with anK:=M.anK++ass.map some} {E with ar:=E.ar++E'.ar} b↔(owned M E b\/owned (rowsOf ass) E' b):=by
 constructor
 ·rintro(hh|⟨k,A,o,e,h1,h2,a⟩)
  ·exact .inl (.inl hh)
  ·by_cases c:k<M.anK.length
   ·simp only[W c]at h1
    simp only[W (hl▸c)]at a;exact .inl (.inr ⟨k,A,o,e,h1,h2,a⟩)
   ·simp only[V (aT c)]at h1
    simp only[V (hl▸aT c)]at a;exact .inr (.inr ⟨k - M.anK.length,A,o,e,h1,h2,hl▸a⟩)
 ·rintro((hh|⟨k,A,o,e,h1,h2,a⟩)|(⟨i,cs,h1,_⟩|⟨k,A,o,e,h1,h2,a⟩))
  ·exact .inl hh
  ·have c:k<M.anK.length:=(Y.1 h1).1
   exact .inr ⟨k,A,o,e,by simp only[W c];exact h1,h2,by simp only[W (hl▸c)];exact a⟩
  ·simp[rowsOf]at h1
  ·refine .inr ⟨M.anK.length+k,A,o,e,?_,h2,?_⟩
   ·simp only[V (bo _ _),aj];exact h1
   ·have:E.ar.length<=M.anK.length+k:=by omega
    simp only[V this,hl,aj];exact a
def azI (h:Sim C X w M E)(h':Sim C (away X M E) w' (rowsOf ass) E')(hf:From w aok ⟨[],[]⟩ w' (rowsOf ass) E')(y:∀A∈ass,A.st≠2):
  Sim C X w' {M with anK:=M.anK++ass.map some} {E with ar:=E.ar++E'.ar}/\From w M E w' {M with anK:=M.anK++ass.map some} {E with ar:=E.ar++E'.ar}/\
  (∀b,away X {M with anK:=M.anK++ass.map some} {E with ar:=E.ar++E'.ar} b↔away (away X M E) (rowsOf ass) E' b):=by
 have r:=h.aoc;have F:=hf.awO;have p:∀b,away X {M with anK:=M.anK++ass.map some} {E with ar:=E.ar++E'.ar} b↔away (away X M E) (rowsOf ass) E' b:=by
  intro b;simp only[away,aGh r,or_assoc]
 have n:∀b,¬owned aok ⟨[],[]⟩ b:=by
  rintro b (⟨i,cs,h1,_⟩|⟨k,A,o,e,h1,_⟩)<;>simp[aok]at h1
 have q:∀b,owned (rowsOf ass) E' b->w.heap.size<=b:=fun b hb=>(hf.own b hb).resolve_left (n b)
 have u:From w M E w' {M with anK:=M.anK++ass.map some} {E with ar:=E.ar++E'.ar}:=
  {os:=hf.os,tape:=hf.tape,output:=hf.output,size:=hf.size
   keep:=fun b o _ v=>hf.keep b o (n b) v
   own:=fun b hb=>((aGh r).1 hb).imp id (q b)
   apD:=S _
   bx:=fun b cs hb=>⟨rfl,cs,hb,rfl⟩
   aoc:=by simp
   ar:=fun k s g hA=>by
    simp only[W g]at hA;exact⟨s,hA,S _,fun _=>⟨by simp only[W (r▸g)],rfl,rfl,fun _=>rfl⟩⟩}
 have c:∀(k:Nat) (A:Arr),(M.anK++ass.map some)[k]?=some (some A)->(k<M.anK.length/\M.anK[k]?=some (some A)/\(E.ar++E'.ar)[k]?=E.ar[k]?)\/
   (M.anK.length<=k/\(rowsOf ass).anK[k - M.anK.length]?=some (some A)/\A∈ass/\(E.ar++E'.ar)[k]?=E'.ar[k - M.anK.length]?):=by
  intro k A hA
  by_cases g:k<M.anK.length
  ·rw[W g]at hA
   exact .inl ⟨g,hA,W (r▸g)⟩
  ·have m:=aT g
   rw[V m]at hA;refine .inr ⟨m,hA,?_,?_⟩
   ·have:=ay hA
    simpa using this
   ·rw[V (r▸m),r]
 have aSi:∀(k:Nat) (A:Arr) (a o e:Nat),(rowsOf ass).anK[k]?=some (some A)->A∈ass->E'.ar[k]?=some (some (a,o,e))->w.heap.size<=a:=fun k A a o e h1 h2 h3=>
  q a (.inr ⟨k,A,o,e,h1,y A h2,h3⟩)
 refine⟨?_,u,p⟩;exact
  {glob:=h'.glob
   apF:=h.apF
   xlt:=fun b hb=>aP (h.xlt b hb) hf.size
   apD:=h.apD
   aoc:=by
    have:=h'.aoc;simp[rowsOf]at this;simp[r,this]
   box:=fun b cs hb=>by
    obtain⟨a,h1,h2,h3⟩:=h.box b cs hb;exact⟨a,h1,h2,h3.from u fun _ v=>F.aqc v⟩
   arr:=fun k A hA=>by
    rcases c k A hA with⟨g,hA',f⟩|⟨g,hA',hm,f⟩
    ·obtain⟨h1,h2,h3,d⟩:=h.arr k A hA'
     refine⟨h1,h2,fun x=>by rw[f];exact h3 x,fun a o e l=> ?_⟩;simp only[f]at l;obtain⟨B,vs,T,q2,q3,q4,D⟩:=d a o e l;exact⟨B,vs,T,F.aqc q2,q3,q4,D.from u⟩
    ·obtain⟨h1,h2,h3,d⟩:=h'.arr _ A hA'
     refine⟨h1,h2,fun x=>by rw[f];exact h3 x,fun a o e l=> ?_⟩;simp only[f]at l;obtain⟨B,vs,T,q2,q3,q4,D⟩:=d a o e l;exact⟨fun H=>B (.inl H),vs,T,q2,q3,q4,D.weaken fun b hb=>(p b).1 hb⟩
   bb:=h.bb
   aa:=fun k G A s a o e z t h1 h2 h3 d=>by
    rcases c k A h1 with⟨g,hA,f⟩|⟨g,hA,hm,f⟩<;>rcases c G s h2 with⟨m,hA',j⟩|⟨m,hA',hm',j⟩
    ·simp only[f]at h3;simp only[j]at d
     exact h.aa k G A s a o e z t hA hA' h3 d
    ·simp only[f]at h3;simp only[j]at d
     exact absurd (h.axP hA h3) (by have:=aSi _ s a z t hA' hm' d;omega)
    ·simp only[f]at h3;simp only[j]at d
     exact absurd (h.axP hA' d) (by have:=aSi _ A a o e hA hm h3;omega)
    ·simp only[f]at h3;simp only[j]at d
     have:=h'.aa _ _ A s a o e z t hA hA' h3 d;omega
   ba:=fun b k cs A a o e h1 h2 h3 d=>by
    rcases c k A h2 with⟨g,hA,f⟩|⟨g,hA,hm,f⟩
    ·simp only[f]at d;exact h.ba b k cs A a o e h1 hA h3 d
    ·simp only[f]at d
     exact absurd (h.ayP h1 h3) (by have:=aSi _ A a o e hA hm d;omega)}
def aBe {O O':Nat->Prop}(hl:E.ar.length=M.anK.length)(j:∀b,O' b->O b){v:Value}{p:PV}(h:Rep w O (rowsOf ass) E' v p):
  Rep w O' {M with anK:=M.anK++ass.map some} {E with ar:=E.ar++E'.ar} v (apR M.anK.length p):=by
 cases h with
 |d h=>exact .d (h.weaken j)
 |tsl f hh=>
  rename_i k ver skip len cap a
  refine .tsl (by simp[rowsOf]at f⊢;omega) fun A i=> ?_
  have e:(rowsOf ass).anK[k]?=some (some A):=by
   rw[V (bo _ _),aj]at i;exact i
  obtain⟨l,m⟩:=hh A e;refine⟨l,fun r=> ?_⟩;obtain⟨c,n,o,g⟩:=m r;refine⟨c,?_,o,?_⟩
  ·have:E.ar.length<=M.anK.length+k:=by omega
   simp only[V this,hl,aj];exact n
  ·cases c with
   |none=>exact aof.weaken j g
   |some q=>exact g
 | _=>exact .dead
def azE {O O':Nat->Prop}{ass:List Arr}(hl:E.ar.length=M.anK.length)(a:∀b,O' b->O b):∀{vs:List Value} {ps:List PV},anW w O (rowsOf ass) E' vs ps->
  anW w O' {M with anK:=M.anK++ass.map some} {E with ar:=E.ar++E'.ar} vs (ps.map (apR M.anK.length))
 | _,_, .nil=> .nil
 | _,_, .cons h t=> .cons (aBe hl a h) (azE hl a t)
def aNF {O O':Nat->Prop}(hl:E.ar.length=M.anK.length)(a:∀b,O' b->O b){v:Value}{p:PV}(h:Rep w O (rowsOf ass) E' v p):
  Rep w O' {M with anK:=M.anK++ass.map some} {E with ar:=E.ar++E'.ar} v (aG0 M.anK.length p):=by
 cases p with
 |agg cs=>cases h with|agg hh=>exact .agg (azE hl a hh)
 | _=>exact aBe hl a h
def aEM {O O':Nat->Prop}{ass:List Arr}(hl:E.ar.length=M.anK.length)(a:∀b,O' b->O b):∀{vs:List Value} {ps:List PV},anW w O (rowsOf ass) E' vs ps->
  anW w O' {M with anK:=M.anK++ass.map some} {E with ar:=E.ar++E'.ar} vs (ps.map (aG0 M.anK.length))
 | _,_, .nil=> .nil
 | _,_, .cons h t=> .cons (aNF hl a h) (aEM hl a t)
def aDy {O O':Nat->Prop}(hl:E.ar.length=M.anK.length)(a:∀b,O' b->O b){v:Value}{p:PV}(h:Rep w O (rowsOf ass) E' v p):
  Rep w O' {M with anK:=M.anK++ass.map some} {E with ar:=E.ar++E'.ar} v (p.shift M.anK.length):=by
 cases p with
 |agg cs=>cases h with|agg hh=>exact .agg (azE hl a hh)
 |tup cs=>cases h with|tup hh=>exact .tup (aEM hl a hh)
 | _=>exact aBe hl a h
def aUZ (args:List PV):(M.frz args).anK.length=M.anK.length:=by simp[Mem.frz,ay2]
def auX (h:aCG C f args M K):SC C f args M K KP:=by
 obtain⟨ds,m,r,ass,t,c⟩:=h;intro X w E j g p;have a:=ard g args;have hd:=(atl g p m (fun q u=>u)).strip;refine(t (away X (M.frz args) E) w j g.glob (fun b i=> .inl (g.apF b i)) (fun b i=>a.auS i) hd).mono fun e w' s=> ?_
 obtain⟨v,E',rfl,l,k,o⟩:=s
 rcases c with⟨x,rfl,y,rfl,c⟩|⟨n,c⟩
 ·exact⟨_,M,E,c,g.later k.awO,k.awO.from M E, .d (aFO y o.toD)⟩
 ·obtain⟨z,A,B⟩:=azI a l k n
  refine⟨_,_,_,c,z,(arp args w).trans A,?_⟩;have:=aDy (M:=M.frz args) (E:=E) a.aoc (fun b i=>(B b).1 i) o;rw[aUZ]at this;exact this
def aCI (h:aGU C f args M K):aCG C f args M K:=by
 obtain⟨ds,h1,x,h2,e⟩:=h;have i:=azP h1;subst i;have a:aos M (ds.map .d)=some ds:=by
  clear h1 h2
  induction ds with
  |nil=>rfl
  |cons d ds b=>simp only[J,aos,datum,b]
 have c:M.frz (ds.map .d)=M:=by
  have h1:(ds.map PV.d).flatMap (aq5 M)=[]:=by
   clear h1 h2 a;induction ds with
   |nil=>rfl
   |cons d ds b=>simp[aq5]
  have h2:(ds.map PV.d).flatMap (aq4 M)=[]:=by
   clear h1 h2 a;induction ds with
   |nil=>rfl
   |cons d ds b=>simp[aq4]
  simp only[Mem.frz,h1,h2,aA0,List.foldl_nil,List.nil_append]
 refine⟨ds,a,_,_,h2, .inr ⟨(fun A g=>by cases g),?_⟩⟩;rw[c]
 simpa[PV.shift,apR]using e
def aJA (h:aCH C f args M K):aCG C f args M K:=by
 obtain⟨ds,h1,x,h2,a,b⟩:=h;exact⟨ds,h1,_,_,h2, .inl ⟨x,rfl,a,rfl,b⟩⟩
end
section
variable {C:Ctx}{X:Nat->Prop}{w w':World}{M:Mem}{E E':Emb}
def aMO {O O':Nat->Prop}:∀{cs:List DV} {vs:List Value},cs.all aAh=true->an3 w O vs cs->an3 w' O' vs cs
 | [],_,_, .nil=> .nil
 |c::cs,_,h, .cons a b=>by
  simp only[an,H]at h;refine .cons ?_ (aMO h.2 b);cases a<;>first|exact .int _ _|exact .bool _|exact .str _|(simp[aAh]at h)
variable{rs:List Arr}{X1:Nat->Prop}
def axF (f:Sim C X w M E)(h:Sim C X1 w' (rowsOf rs) E')(hf:From w aok ⟨[],[]⟩ w' (rowsOf rs) E')(g:rs.all apY=true):Sim C (away X M E) w' (rowsOf rs) E':=
 {glob:=h.glob,apF:=fun b c=> .inl (f.apF b c),xlt:=fun b c=>aP (f.auS c) hf.size,apD:=h.apD,aoc:=h.aoc
  box:=fun b cs c=>by simp[rowsOf]at c
  arr:=fun k A hA=>by
   obtain⟨h1,h2,h3,q⟩:=h.arr k A hA;have r:A∈rs:=by
    simp only[rowsOf,bg]at hA;cases j:rs[k]? with
    |none=>simp[j]at hA
    |some B=>rw[j]at hA;simp at hA;subst hA;exact ay j
   have d:=aG.1 g A r;simp only[apY,H]at d;have hst:A.st≠2:=by
    intro e
    rcases aJ.1 d.1 with h|h
    ·rw[e]at h;simp at h
    ·rw[e]at h;simp at h
   refine⟨h1,h2,h3,fun a o e l=> ?_⟩;obtain⟨t,vs,T,g2,g3,g4,p⟩:=q a o e l;refine⟨fun c=> ?_,vs,T,g2,g3,g4,aMO (by simpa using d.2) p⟩;have m:w.heap.size<=a:=by
    refine(hf.own a (.inr ⟨k,A,o,e,hA,hst,l⟩)).resolve_left ?_;rintro(⟨i,cs,h1,_⟩|⟨k,A,o,e,h1,_⟩)<;>simp[aok]at h1
   have:=f.auS c;omega
  bb:=fun b s cs n a h1=>by simp[rowsOf]at h1
  aa:=h.aa
  ba:=fun b k cs A a o e h1=>by simp[rowsOf]at h1}
variable{X2:Nat->Prop}
def aBd (h:Sim C X1 w' (rowsOf rs) E')(g:rs.all apY=true){v:Value}{p:PV}(n:aFL p=true)(r:Rep w' (away X1 (rowsOf rs) E') (rowsOf rs) E' v p):Rep w' (away X2 (rowsOf rs) E') (rowsOf rs) E' v p:=by
 cases p with
 |d x=>exact .d (aFO n r.toD)
 |tsl k ver skip=>
  cases r with|tsl j hh=>
  refine .tsl j fun A a=> ?_
  obtain⟨w,y⟩:=hh A a;refine⟨w,fun e=> ?_⟩;obtain⟨c,s,z,f⟩:=y e;refine⟨c,s,z,?_⟩;cases c with
  |some q=>exact f
  |none=>
   have u:A∈rs:=by
    simp only[rowsOf,bg]at a;cases i:rs[k]? with
    |none=>simp[i]at a
    |some B=>rw[i]at a;simp at a;subst a;exact ay i
   have b:=aG.1 g A u;simp only[apY,H]at b
   rcases aJ.1 b.1 with h1|h1
   ·simp only[beq_iff_eq]at h1
    obtain⟨q,o⟩:=(h.arr k A a).2.2.1 h1;rw[s]at o;cases o
   ·simp only[H,bn]at h1
    have t:A.elems.drop skip=[]:=by rw[h1.1];simp
    simp only at f⊢;rw[t]at f⊢;cases f with
    |empty l=>exact .empty l
    |slice D F m G E l hh=>
     simp only[aX]at m;subst m;exact .empty l
 | _=>simp[aFL]at n
def azD {rs:List Arr}{X1 X2:Nat->Prop}(h:Sim C X1 w' (rowsOf rs) E')(a:rs.all apY=true):∀{vs:List Value} {ps:List PV},ps.all aFL=true->anW w' (away X1 (rowsOf rs) E') (rowsOf rs) E' vs ps->anW w' (away X2 (rowsOf rs) E') (rowsOf rs) E' vs ps
 | _,_,_, .nil=> .nil
 | _,_,b, .cons c d=>by
  simp only[an,H]at b;exact .cons (aBd h a b.1 c) (azD h a b.2 d)
def aNE (h:Sim C X1 w' (rowsOf rs) E')(a:rs.all apY=true){v:Value}{p:PV}(b:aMN p=true)(c:Rep w' (away X1 (rowsOf rs) E') (rowsOf rs) E' v p):Rep w' (away X2 (rowsOf rs) E') (rowsOf rs) E' v p:=by
 cases p with
 |agg cs=>cases c with|agg hh=>exact .agg (azD h a b hh)
 | _=>exact aBd h a b c
def aEL {rs:List Arr}{X1 X2:Nat->Prop}(h:Sim C X1 w' (rowsOf rs) E')(a:rs.all apY=true):∀{vs:List Value} {ps:List PV},ps.all aMN=true->anW w' (away X1 (rowsOf rs) E') (rowsOf rs) E' vs ps->anW w' (away X2 (rowsOf rs) E') (rowsOf rs) E' vs ps
 | _,_,_, .nil=> .nil
 | _,_,b, .cons c d=>by
  simp only[an,H]at b;exact .cons (aNE h a b.1 c) (aEL h a b.2 d)
def aDw (h:Sim C X1 w' (rowsOf rs) E')(a:rs.all apY=true){v:Value}{p:PV}(b:aFN p=true)(c:Rep w' (away X1 (rowsOf rs) E') (rowsOf rs) E' v p):Rep w' (away X2 (rowsOf rs) E') (rowsOf rs) E' v p:=by
 cases p with
 |agg cs=>cases c with|agg hh=>exact .agg (azD h a b hh)
 |tup cs=>cases c with|tup hh=>exact .tup (aEL h a b hh)
 | _=>exact aBd h a b c
variable{f:FuncId}{args:List PV}
def aLC {ds ds':List DV}{r:PV}(h:Pure C f ds' r rs)(x:aFN r=true)(c:rs.all apY=true){K:PV->Mem->Prop}{KP:DV->Mem->Prop}
  (l:aos M args=some ds)(m:ds.map DV.strip=ds')(s:K (r.shift M.anK.length) {M with anK:=M.anK++rs.map some}):SC C f args M K KP:=by
 subst m;intro X w E j a p;have k:=ard a args;have hd:=(atl a p l (fun q u=>u)).strip;refine(h (away X (M.frz args) E) w j a.glob (fun b g=> .inl (a.apF b g)) (fun b g=>k.auS g) hd).mono fun e w' m=> ?_
 obtain⟨v,E',rfl,d,o,y⟩:=m;have n:∀A∈rs,A.st≠2:=fun A t e=>by
  have i:=aG.1 c A t;simp only[apY,H]at i
  rcases aJ.1 i.1 with h|h
  ·rw[e]at h;simp at h
  ·rw[e]at h;simp at h
 obtain⟨z,B,D⟩:=azI a (axF a d o c) o n;exact⟨_,_,_,s,z,B,aDy a.aoc (fun b g=>(D b).1 g) (aDw d c x y)⟩
def aPT {O O':Nat->Prop}{v:Value}{x:DV}(h:aFM x=true)(a:aof w O v x):aof w' O' v x:=by
 cases x with
 |iface t d=>
  cases a with
  |iface hh=>
   cases d with
   |agg cs=>cases hh with|agg hh=>exact .iface (.agg (aMO h hh))
   | _=>simp[aFM,av2]at h
 | _=>exact aFO h a
def aGZ {K:PV->Mem->Prop}{KP:DV->Mem->Prop}(h:aGV C f args M K):SC C f args M K KP:=by
 obtain⟨ds,m,r,rs,x,z,D,t⟩:=h;intro X w E j a s;have l:=ard a args;have hd:=(atl a s m (fun q A=>A)).strip;refine(z (away X (M.frz args) E) w j a.glob (fun b i=> .inl (a.apF b i)) (fun b i=>l.auS i) hd).mono fun e w' u=> ?_
 obtain⟨v,E',rfl,c,k,p⟩:=u;refine⟨_,M,E,t,a.later k.awO,k.awO.from M E, .d ?_⟩
 rcases D with⟨rfl,rfl,y⟩|⟨B,g,n⟩
 ·exact aPT y p.toD
 ·have o:=aDw (X2:=away X M E) c g B p
  exact(aqx (ps:=[r]) (axF a c k g) o n (by simp)).weaken fun b i=> .inl i
end
section
variable {C:Ctx}{X:Nat->Prop}{w:World}{M:Mem}{E:Emb}{K:PV->Mem->Prop}{KP:DV->Mem->Prop}{O:Nat->Prop}
variable{P:Program}
def aEW {t:TypeId}{k:Nat}(h:asf (P.underlying t) k=true)(v:Value)(em:Bool)(n:Nat):(Instr.checkKey em (n+1) t v).run P w= .ok () w:=by
 unfold asf at h
 split at h
 ·rename_i a;simp[Instr.checkKey,run_underlying a]
 ·rename_i a;simp[Instr.checkKey,run_underlying a]
 ·rename_i a;simp[Instr.checkKey,run_underlying a]
 ·cases h
def aD0 {P:Program}{cs:Array Value}{em:Bool}{n:Nat}:∀{fs:List Field} {ks:List Nat} {off:Nat} {l m:List DV} {t:Bool},ao5 P fs ks off=true->an3 w O (cs.toList.drop off) l->aoR ks l m=some t->
  ∀f∈fs,f.name≠ "_" /\∃a,(part f.type cs f.offset).run P w= .ok a w/\(Instr.checkKey em (n+1) f.type a).run P w= .ok () w
 | [],_,_,_,_,_,_,_,_,f,z=>by cases z
 |f::fs,k::ks,off,l,m,t,e,v,c,g,hg=>by
  simp only[ao5,H,decide_eq_true_eq]at e;obtain⟨⟨⟨h,s⟩,A⟩,e⟩:=e;have q:∃a i r y,l=a::i/\aoR ks i r=some y:=by
   unfold aoR at c
   split at c
   ·contradiction
   ·rename_i B E a i F b r d
    cases d
    split at c
    ·rw[I]at c
     obtain⟨t2,h2,_⟩:=c;exact⟨_,_,_,_,rfl,h2⟩
    ·cases c
   ·rename_i d
    cases d;rw[I]at c;obtain⟨t2,h2,_⟩:=c;exact⟨_,_,_,_,rfl,h2⟩
   ·rename_i d
    cases d;rw[I]at c;obtain⟨t2,h2,_⟩:=c;exact⟨_,_,_,_,rfl,h2⟩
   ·cases c
  obtain⟨a,i,r,y,rfl,h2⟩:=q;generalize x:cs.toList.drop off=xl at v;cases v with
  |cons D j=>
   rename_i u C
   have o:cs[off]?=some u:=by
    have:(cs.toList.drop off)[0]?=some u:=by rw[x];rfl
    simpa using this
   have p:cs.toList.drop (off+1)=C:=by
    rw[<-ao,x];rfl
   rcases a6.1 hg with rfl|hg
   ·exact⟨A,u,by rw[h];exact azg s o,aEW s u em n⟩
   ·exact aD0 e (p▸j) h2 g hg
 | _::_,[],_,_,_,_,e,_,_,_,_=>by simp[ao5]at e
variable{ks:List Nat}
def ayt {key:TypeId}{fs:Array Field}(d:P.underlying key=some (.struct fs))(c:ao5 P fs.toList ks 0=true){xs:Array Value}{k m:List DV}{t:Bool}(hx:an3 w O xs.toList k)(hc:aoR ks k m=some t)(em:Bool):
  (Instr.checkKey em 10000 key (.agg xs)).run P w= .ok () w:=by
 have b:=aD0 (em:=em) (n:=9998) c (by simpa using hx) hc;rw[show(10000:Nat)=9999+1 from rfl,Instr.checkKey];simp only[Sem.run_bind,run_underlying d,Result.andThen_ok];rw[<-Array.forIn_toList];generalize fs.toList=L at b
 induction L with
 |nil=>simp
 |cons f L h=>
  obtain⟨e,a,i,j⟩:=b f (by simp);simp only[List.forIn_cons,Sem.run_bind,e,ne_eq,not_false_eq_true,if_true,Result.andThen_ok,i,j,Sem.run_pure];exact h (fun y g=>b y (by simp[g]))
variable{ρ:Operand->Value}{o:Oper}{x:Operand}
def aRy {p t t':TypeId}{c:Bool}{z:DV}(ho:o.op= .typeAssert x p t c){args:List PV}(l:Sim C X w M E)(k:anW w (away X M E) M E ((opsOf o.op).map ρ) args)
  (f:an0 C.P (.typeAssert x p t c) (.tas t' z)=true){base:Nat}(h:anG C base (.tas t' z) args M K KP):apo C X w M E K KP ((execOp ρ o).run C.P w):=by
 simp only[an0,H,decide_eq_true_eq]at f;obtain⟨⟨⟨rfl,rfl⟩,n⟩,i⟩:=f
 split at i
 ·rename_i y arX
  split at i
  ·rename_i q j
   simp only[ho,opsOf,J,Z]at k;simp only[anG]at h
   split at h
   ·rename_i t2 d
    obtain⟨v,m,r⟩:=apf k;simp only[List.cons.injEq,and_true]at m;subst m;have hd:=r.toD;generalize g:ρ x=vv at hd;cases hd with
    |iface s=>
     rename_i v
     have u:(zeroValue t).run C.P w= .ok q w:=by simp[zeroValue,typeInfo,arX,j]
     by_cases e:t2=t
     ·have a:(execOp ρ o).run C.P w= .ok (.value (.tuple #[v, .bool true])) w:=by
       simp only[execOp,ho,Instr.typeAssert,g];cases b:C.P.underlying t with
       |none=>simp[b]at n
       |some d=>cases d<;>simp_all[run_underlying b]
      rw[a];refine .same l h (.d (.tup (.cons ?_ (.cons ?_ .nil))))
      ·rw[if_pos e];exact s
      ·simp only[e,decide_true];exact .bool _
     ·have a:(execOp ρ o).run C.P w= .ok (.value (.tuple #[q, .bool false])) w:=by
       simp only[execOp,ho,Instr.typeAssert,g];cases b:C.P.underlying t with
       |none=>simp[b]at n
       |some d=>cases d<;>simp_all[run_underlying b]
      rw[a];refine .same l h (.d (.tup (.cons ?_ (.cons ?_ .nil))))
      ·rw[if_neg e];exact asi i
      ·simp only[e,decide_false];exact .bool _
   ·exact h.elim
  ·cases i
 ·cases i
structure Put (g:Nat) (w w':World) (o:Obj):Prop where
 os:w'.os=w.os
 tape:w'.tape=w.tape
 output:w'.output=w.output
 size:w'.heap.size=w.heap.size
 at_:w'.heap[g]?=some o
 keep:∀b,b≠g->w'.heap[b]?=w.heap[b]?
def aCx (w:World)(g:Nat)(o:Obj)(h:g<w.heap.size):Put g w {w with heap:=w.heap.setIfInBounds g o} o:={
 os:=rfl
 tape:=rfl
 output:=rfl
 size:=by simp
 at_:=by simp[h]
 keep:=fun b a=>by simp[Array.getElem?_setIfInBounds_ne (Ne.symm a)]}
def Put.aqc {g:Nat}{o':Obj}{w w':World}(h:Put g w w' o'){b:Nat}{o:Obj}(hb:b≠g)(ho:w.heap[b]?=some o):w'.heap[b]?=some o:=(h.keep b hb).trans ho
def aCN {w':World}{b blk:Nat}{cs cs':List PV}{o:Obj}(h:Sim C X w M E)(hb:M.boxes[b]?=some (some cs))(z:b∉M.fz)(ho:isObj cs=true)(F:isObj cs'=true)
  (he:E.bx[b]?=some blk)(m:Put blk w w' o)
  (x:From w M E w' {M with boxes:=M.boxes.set b (some cs')} E->arP w' (away X {M with boxes:=M.boxes.set b (some cs')} E) {M with boxes:=M.boxes.set b (some cs')} E blk cs'):
  Sim C X w' {M with boxes:=M.boxes.set b (some cs')} E/\From w M E w' {M with boxes:=M.boxes.set b (some cs')} E:=by
 have B:b<M.boxes.length:=(Y.1 hb).1;have r:owned M E blk:= .inl ⟨b,cs,hb,z,he⟩;have hX:¬X blk:=by
  obtain⟨a,h1,h2,_⟩:=h.box b cs hb;rw[he]at h1;cases h1;exact h2
 have d:∀(i:Nat) (c:List PV),(M.boxes.set b (some cs'))[i]?=some (some c)->∃c':List PV,M.boxes[i]?=some (some c'):=by
  intro i c f
  rcases anS f with⟨rfl,_⟩|⟨_,l⟩
  ·exact⟨cs,hb⟩
  ·exact⟨c,l⟩
 have s:From w M E w' {M with boxes:=M.boxes.set b (some cs')} E:=
  {os:=m.os,tape:=m.tape,output:=m.output,size:=bh m.size.symm
   keep:=fun i o f ho=>m.aqc (fun e=>f (e▸r)) ho
   own:=by
    rintro i (⟨j,c,h1,h2,h3⟩|⟨k,A,o,e,h1,h2,h3⟩)
    ·obtain⟨c',h1'⟩:=d j c h1
     exact .inl (.inl ⟨j,c',h1',h2,h3⟩)
    ·exact .inl (.inr ⟨k,A,o,e,h1,h2,h3⟩)
   apD:=by simp
   bx:=fun i c f=>by
    refine⟨rfl,?_⟩
    by_cases q:i=b
    ·subst q;rw[hb]at f;cases f;exact⟨cs',by simp[B],F.trans ho.symm⟩
    ·exact⟨c,by rw[ax];simp[Ne.symm q,f],rfl⟩
   aoc:=S _
   ar:=fun _ I _ h=>⟨I,h,S _,fun _=>⟨rfl,rfl,rfl,fun _=>rfl⟩⟩}
 refine⟨?_,s⟩;exact
  {glob:=C.keeps w w' h.glob fun b hb=>m.keep b (fun e=>hX (e▸h.apF b hb)),apF:=h.apF
   xlt:=fun i f=>by rw[m.size];exact h.xlt i f
   apD:=by simp[h.apD]
   aoc:=h.aoc
   box:=fun i c f=>by
    rcases anS f with⟨rfl,y⟩|⟨D,l⟩
    ·cases y
     exact⟨blk,he,hX,x s⟩
    ·obtain⟨a,h1,h2,h3⟩:=h.box i c l
     have g:a≠blk:=fun e=>D (h.bb i b c cs blk l hb (e▸h1) he)
     exact⟨a,h1,h2,h3.from s fun _ ho=>m.aqc g ho⟩
   arr:=fun k A G=>by
    obtain⟨h1,h2,h3,p⟩:=h.arr k A G;refine⟨h1,h2,h3,fun a o e H=> ?_⟩;obtain⟨L,vs',T',g2,g3,g4,N⟩:=p a o e H;have g:a≠blk:=fun K=>h.ba b k cs A blk o e hb G he (K▸H)
    exact⟨L,vs',T',m.aqc g g2,g3,g4,N.from s⟩
   bb:=fun i j n t a h1 h2 h3 p=>by
    obtain⟨u,h1'⟩:=d i n h1;obtain⟨J,v⟩:=d j t h2;exact h.bb i j u J a h1' v h3 p
   aa:=h.aa
   ba:=fun i k n A a o e h1 h2 h3 p=>by
    obtain⟨u,h1'⟩:=d i n h1;exact h.ba i k u A a o e h1' h2 h3 p}
def aJC {id:Nat}{o:Obj}{cs:List PV}(h:Sim C X w M E)(hid:M.boxes[id]?=some none)
  (r:From w M E (w.alloc o) {M with boxes:=M.boxes.set id (some cs)} {E with bx:=E.bx.set id w.heap.size}->
   arP (w.alloc o) (away X {M with boxes:=M.boxes.set id (some cs)} {E with bx:=E.bx.set id w.heap.size}) {M with boxes:=M.boxes.set id (some cs)} {E with bx:=E.bx.set id w.heap.size} w.heap.size cs):
  Sim C X (w.alloc o) {M with boxes:=M.boxes.set id (some cs)} {E with bx:=E.bx.set id w.heap.size}/\
  From w M E (w.alloc o) {M with boxes:=M.boxes.set id (some cs)} {E with bx:=E.bx.set id w.heap.size}:=by
 have u:id<M.boxes.length:=(Y.1 hid).1;have aI6:id<E.bx.length:=h.apD▸u;have c:∀b,b≠id->(E.bx.set id w.heap.size)[b]?=E.bx[b]?:=fun b g=>by rw[ax];simp[Ne.symm g]
 have hbi:(E.bx.set id w.heap.size)[id]?=some w.heap.size:=by simp[aI6]
 have n:From w M E (w.alloc o) {M with boxes:=M.boxes.set id (some cs)} {E with bx:=E.bx.set id w.heap.size}:=
  {os:=rfl,tape:=rfl,output:=rfl,size:=by simp
   keep:=fun b o _ v=>(Later.alloc w _).aqc v
   own:=by
    rintro b (⟨i,cs',h1,h2,h3⟩|⟨k,A,o,e,h1,h2,h3⟩)
    ·rcases anS h1 with⟨rfl,_⟩|⟨a,h1'⟩
     ·rw[hbi]at h3;cases h3;exact .inr (S _)
     ·rw[c i a]at h3;exact .inl (.inl ⟨i,cs',h1',h2,h3⟩)
    ·exact .inl (.inr ⟨k,A,o,e,h1,h2,h3⟩)
   apD:=by simp
   bx:=fun b cs' g=>by
    have a:b≠id:=by rintro rfl;rw[hid]at g;cases g
    exact⟨c b a,cs',by rw[ax];simp[Ne.symm a,g],rfl⟩
   aoc:=S _
   ar:=fun _ x _ h=>⟨x,h,S _,fun _=>⟨rfl,rfl,rfl,fun _=>rfl⟩⟩}
 refine⟨?_,n⟩;exact
  {glob:=C.keeps w _ h.glob fun b g=>(Later.alloc w _).keep b (h.xlt b (h.apF b g)),apF:=h.apF
   xlt:=fun b g=>by have:=h.xlt b g;simp;omega
   apD:=by simp[h.apD]
   aoc:=h.aoc
   box:=fun b cs' g=>by
    rcases anS g with⟨rfl,t⟩|⟨a,s⟩
    ·cases t
     exact⟨w.heap.size,hbi,fun F=>absurd (h.xlt _ F) (by omega),r n⟩
    ·obtain⟨d,h1,h2,h3⟩:=h.box b cs' s
     exact⟨d,(c b a).trans h1,h2,h3.from n fun _ v=>(Later.alloc w _).aqc v⟩
   arr:=fun k A B=>by
    obtain⟨h1,h2,h3,f⟩:=h.arr k A B;refine⟨h1,h2,h3,fun d o e D=> ?_⟩;obtain⟨y,vs,T,g2,g3,g4,z⟩:=f d o e D;exact⟨y,vs,T,(Later.alloc w _).aqc g2,g3,g4,z.from n⟩
   bb:=fun b p l q d h1 h2 h3 f=>by
    rcases anS h1 with⟨rfl,_⟩|⟨a,h1'⟩<;>rcases anS h2 with⟨rfl,_⟩|⟨j,m⟩
    ·rfl
    ·rw[hbi]at h3;cases h3;rw[c p j]at f;exact absurd (h.ayP m f) (by omega)
    ·rw[hbi]at f;cases f;rw[c b a]at h3;exact absurd (h.ayP h1' h3) (by omega)
    ·rw[c b a]at h3;rw[c p j]at f;exact h.bb b p l q d h1' m h3 f
   aa:=h.aa
   ba:=fun b k l A d o e h1 h2 h3 f=>by
    rcases anS h1 with⟨rfl,_⟩|⟨a,h1'⟩
    ·rw[hbi]at h3;cases h3;exact absurd (h.axP h2 f) (by omega)
    ·rw[c b a]at h3;exact h.ba b k l A d o e h1' h2 h3 f}
def aMj {t:TypeId}{i:Nat}(ho:o.op= .makeMap t none){args:List PV}(c:Sim C X w M E)
  {base:Nat}(h:anG C base (.mkMap i) args M K KP):apo C X w M E K KP ((execOp ρ o).run C.P w):=by
 simp only[anG]at h
 split at h
 ·obtain⟨h1,h2⟩:=h
  have a:base+i<M.boxes.length:=(Y.1 h1).1;have aI6:base+i<E.bx.length:=c.apD▸a;have b:(execOp ρ o).run C.P w= .ok (.value (.map (some w.heap.size))) (w.alloc (.map #[] 0)):=by
   simp only[execOp,ho,aB];rfl
  rw[b];obtain⟨d,e⟩:=aJC (o:= .map #[] 0) (cs:=[.apZ []]) c h1 fun _=>⟨#[],0,heap_alloc_new w _, .nil, .nil⟩
  exact⟨_,_,_,h2,d,e, .mref (cs:=[.apZ []]) (by simp[a]) (by simp[aI6]) rfl⟩
 ·exact h.elim
def aFK {P:Program}{key:TypeId}{fs:Array Field}{ks:List Nat}(a:P.underlying key=some (.struct fs))(g:ao5 P fs.toList ks 0=true)(m:P.stoodInHeld key=false){xs:Array Value}{k:List DV}(hx:an3 w O xs.toList k){v:DV}:
  ∀(es:List MapEntry) (l n:List (DV×DV)) (i:Nat),an3 w O (es.map (·.key)) (l.map (·.1))->an3 w O (es.map (·.val)) (l.map (·.2))->aBT ks l k v=some n->
  ∃x,(Instr.findAsking key (.agg xs) es i).run P w= .ok x w/\((x=none/\n=l++ [(.agg k,v)])\/
   ∃j u k' e,x=some (i+j,u)/\es[j]?=some e/\j<l.length/\aof w O e.key (.agg k')/\aoR ks k k'=some true/\n=l.set j (.agg k,v))
 | [],[],n,i,_,_,h=>by
  simp only[aBT,Option.some.injEq]at h;subst h;exact⟨none,by simp[Instr.findAsking], .inl ⟨rfl,rfl⟩⟩
 |e::es,(r,dv)::l,n,i,h1,h2,h=>by
  simp only[J]at h1 h2;cases h1 with
  |cons s p=>cases h2 with
   |cons L q=>
    have o:∃k',r= .agg k':=by cases r<;>first|exact⟨_,rfl⟩|(simp[aBT]at h)
    obtain⟨k',rfl⟩:=o;obtain⟨ys,z,E⟩:=s.awF;have d:∀t,aoR ks k k'=some t->(Op.equal key (.agg xs) e.key).run P w= .ok t w:=by
     intro t D
     show(Op.equalIn 10000 key (.agg xs) e.key).run P w= .ok t w
     have f:P.fieldsOf key=fs:=by simp[Program.fieldsOf,a]
     rw[z,run_equalIn_agg w 9999 key xs ys (by rw[f];exact a) m,f];exact avG 9998 g (by simpa using hx) (by simpa using E) D
    cases c:aoR ks k k' with
    |none=>simp[aBT,c]at h
    |some b=>
     cases b with
     |true=>
      simp only[aBT,c,Option.some.injEq]at h;exact⟨some (i,e.val),by simp[Instr.findAsking,d _ c], .inr ⟨0,e.val,k',e,rfl,rfl,by simp,s,c,h.symm⟩⟩
     |false=>
      simp only[aBT,c,I]at h;obtain⟨l2,C,rfl⟩:=h;obtain⟨x,A,B⟩:=aFK a g m hx es l l2 (i+1) p q C;refine⟨x,by simp[Instr.findAsking,d _ c,A],?_⟩
      rcases B with⟨rfl,rfl⟩|⟨j,u,F,y,rfl,G,M,H,K,rfl⟩
      ·exact .inl ⟨rfl,rfl⟩
      ·exact .inr ⟨j+1,u,F,y,by simp;omega,by simpa using G,by simp;omega,H,K,rfl⟩
 | [],_::_,_,_,h1,_,_=>by simp at h1;cases h1
 | _::_,[],_,_,h1,_,_=>by simp at h1;cases h1
def aFs:∀{vs q:List Value} {k k':List DV},an3 w O vs k->an3 w O q k'->aoR ks k k'=some true->vs.length=q.length/\((q.zip vs).all fun(x,y)=>Instr.sameBits 9999 x y)=true:=by
 induction ks with
 |nil=>
  intro vs q k k' h1 h2 h;cases h1 with
  |nil=>cases h2 with
   |nil=>exact⟨rfl,rfl⟩
   |cons _ _=>simp[aoR]at h
  |cons _ _=>simp[aoR]at h
 |cons a ks s=>
  intro vs q k k' h1 h2 h;unfold aoR at h
  split at h
  ·contradiction
  ·rename_i j C n l D m v c
   cases c;cases h1 with
   |cons i h1=>cases h2 with
    |cons g h2=>
     split at h
     ·rename_i B
      subst B;rw[I]at h;obtain⟨t,f,e⟩:=h;simp only[H,beq_iff_eq]at e;obtain⟨rfl,rfl⟩:=e;obtain⟨o,p⟩:=s h1 h2 f;rw[i.apB,g.apB];exact⟨by simp[o],by simp only[aO,an,p,aR];simp[Instr.sameBits]⟩
     ·cases h
  ·rename_i j b l r v c
   cases c;cases h1 with
   |cons i h1=>cases h2 with
    |cons g h2=>
     rw[I]at h;obtain⟨t,f,e⟩:=h;simp only[H,beq_iff_eq]at e;obtain⟨rfl,rfl⟩:=e;obtain⟨o,p⟩:=s h1 h2 f;rw[i.atK,g.atK];exact⟨by simp[o],by simp only[aO,an,p,aR];simp[Instr.sameBits]⟩
  ·rename_i j b l r v c
   cases c;cases h1 with
   |cons i h1=>cases h2 with
    |cons g h2=>
     rw[I]at h;obtain⟨t,f,e⟩:=h;simp only[H,beq_iff_eq]at e;obtain⟨u,rfl⟩:=e;obtain⟨o,p⟩:=s h1 h2 f;rw[i.auZ,g.auZ];have z:b=r:=by
      cases b;cases r;simp only[ByteArray.toList_eq]at u
      simpa using u
     subst z;have A:(b==b)=true:=by cases b with|mk d=>show(d==d)=true;exact beq_self_eq_true d
     exact⟨by simp[o],by simp only[aO,an,p,aR];simp only[Instr.sameBits,A]⟩
  ·cases h
def aPs {t:TypeId}{i y:Operand}(ho:o.op= .mapUpdate t x i y){args:List PV}(hS:Sim C X w M E)(hA:anW w (away X M E) M E ((opsOf o.op).map ρ) args)
  (d:an0 C.P (.mapUpdate t x i y) (.aNj ks)=true){base:Nat}(h:anG C base (.aNj ks) args M K KP):apo C X w M E K KP ((execOp ρ o).run C.P w):=by
 simp only[an0]at d
 split at d
 ·rename_i ah e O
  split at d
  ·rename_i fs aX0
   simp only[H,ab]at d;obtain⟨N,ae⟩:=d;simp only[ho,opsOf,J,Z]at hA;simp only[anG]at h
   split at h
   ·rename_i b k v
    obtain⟨v1,v2,v3,he,hr,ac,L⟩:=aBb hA;simp only[List.cons.injEq,and_true]at he;obtain⟨rfl,rfl,rfl⟩:=he
    split at h
    ·rename_i l f
     obtain⟨V,h⟩:=h
     split at h
     ·rename_i S hc hl
      have r:M.boxes[b]?=some (some [.apZ l]):=by
       unfold Mem.box at f
       split at f
       ·rename_i cs U;cases f;exact U
       ·cases f
      obtain⟨xs,e1,R⟩:=ac.toD.awF;generalize Q:ρ x=vv at hr;cases hr with
      |mref G B ak=>
       rename_i c cs
       rw[r]at G;cases G;obtain⟨aj,q1,q2,q3⟩:=hS.box b _ r;rw[B]at q1;cases q1;obtain⟨es,clock,T,Y,hv⟩:=q3;obtain⟨z,g1,g2⟩:=aFK (P:=C.P) (v:=v) aX0 N ae R es.toList l S 0 Y hv hl;have D:=ayt (P:=C.P) aX0 N R hc false;have s:(Instr.findKey ah (.agg xs) es.toList).run C.P w= .ok z w:=by
        rw[run_findKey_eq (P:=C.P) w (by rw[aX0])];exact g1
       have n:(getObj c).run C.P w= .ok (.map es clock) w:=by simp[getObj,Sem.run,T]
       have I:=aop T;have p:∀o':Obj,(setObj c o').run C.P w= .ok () {w with heap:=w.heap.setIfInBounds c o'}:=fun o'=>by simp[setObj,Sem.run,T]
       have A:∀(g:Array MapEntry) (a:Nat),an3 w (away X M E) (g.toList.map (·.key)) (S.map (·.1))->an3 w (away X M E) (g.toList.map (·.val)) (S.map (·.2))->
         apo C X w M E K KP (.ok .skip {w with heap:=w.heap.setIfInBounds c (.map g a)}):=by
        intro g a p1 p2;obtain⟨s1,s2⟩:=aCN (cs':=[.apZ S]) hS r V rfl rfl B (aCx w c (.map g a) I) fun hf=>⟨g,a,by simp[I],p1.from hf,p2.from hf⟩
        exact⟨_,_,h,s1,s2⟩
       rcases g2 with⟨rfl,rfl⟩|⟨j,u,k',en,rfl,p1,p2,p3,p4,rfl⟩
       ·have m:(execOp ρ o).run C.P w= .ok .skip {w with heap:=w.heap.setIfInBounds c (.map (es.push {key:= .agg xs,val:=ρ y,born:=clock}) (clock+1))}:=by
         simp only[execOp,ho,Instr.mapUpdate,Sem.run_bind,run_underlying O,Result.andThen_ok,Q,e1,n,D,s,p];simp[Sem.run_pure]
        rw[m];refine A _ _ ?_ ?_
        ·simpa using Y.append (.cons (.agg R) .nil)
        ·simpa using hv.append (.cons L.toD .nil)
       ·obtain⟨ys,e2,hy⟩:=p3.awF
        obtain⟨b1,b2⟩:=aFs R hy p4;have aSd:Instr.sameBits 10000 (.agg ys) (.agg xs)=true:=by
         simp only[Instr.sameBits,H,beq_iff_eq];exact⟨by simpa using b1.symm,b2⟩
        have W:es[j]?=some en:=by simpa using p1
        have F:j<es.size:=aop W;have aSl:(Instr.keyThatStays (((es[j]?).map (·.key)).getD (.agg xs)) (.agg xs)).run C.P w= .ok (.agg xs) w:=by
         simp only[W,aC,ai,e2,Instr.keyThatStays,aSd,if_true,Sem.run_pure]
        have m:(execOp ρ o).run C.P w= .ok .skip {w with heap:=w.heap.setIfInBounds c (.map (es.modify j fun e=>{e with key:= .agg xs,val:=ρ y}) clock)}:=by
         simp only[aA]at s;simp only[execOp,ho,Instr.mapUpdate,Sem.run_bind,run_underlying O,Result.andThen_ok,Q,e1,n,D,s,aSl,p];simp[Sem.run_pure]
        rw[m];have hm:(es.modify j fun e=>{e with key:= .agg xs,val:=ρ y}).toList=es.toList.set j {en with key:= .agg xs,val:=ρ y}:=by
         apply be;intro q;rw[ax];simp only[au,aY]
         by_cases hq:j=q
         ·subst hq;rw[if_pos rfl,if_pos rfl,W,if_pos (by simpa using F)];rfl
         ·rw[if_neg hq,if_neg hq]
        refine A _ _ ?_ ?_
        ·rw[hm,aq,aq];exact Y.set j (.agg R)
        ·rw[hm,aq,aq];exact hv.set j L.toD
     ·exact h.elim
    ·exact h.elim
   ·exact h.elim
  ·cases d
 ·cases d
end
section
variable {C:Ctx}{X:Nat->Prop}{w:World}{M:Mem}{E:Emb}{K:PV->Mem->Prop}{KP:DV->Mem->Prop}{O:Nat->Prop}
variable{ρ:Operand->Value}{o:Oper}
def aMk {t:TypeId}{len sz:Nat}{parts:Array (Nat×Operand)}{zs:List DV}{V:List Nat}(ho:o.op= .buildSlice t len parts){args:List PV}(T:Sim C X w M E)
  (Q:anW w (away X M E) M E ((opsOf o.op).map ρ) args)(a:an0 C.P (.buildSlice t len parts) (.arY sz zs V)=true){base:Nat}
  (h:anG C base (.arY sz zs V) args M K KP):apo C X w M E K KP ((execOp ρ o).run C.P w):=by
 simp only[anG]at h
 split at h
 ·rename_i ds u
  split at h
  ·rename_i xs G
   obtain⟨g,c,Z⟩:=h;simp only[an0]at a
   split at a
   ·rename_i e he
    split at a
    ·rename_i ab arX
     split at a
     ·rename_i z hz
      simp only[H,decide_eq_true_eq,beq_iff_eq]at a;obtain⟨⟨⟨⟨⟨⟨F,hs⟩,k⟩,U⟩,I⟩,aFX⟩,y⟩:=a;simp only[ho,opsOf]at Q;have q:=(Q.apx u).strip;have r:an3 w (away X M E) ((parts.toList.map fun x=>(x.1,ρ x.2)).map (·.2)) (ds.map DV.strip):=by simpa[List.map_map,bd]using q
      have L:∀x∈zs,x.cells.length=sz:=by
       intro x hx;simp only[aG]at aFX;have:=(apX (w:=w) (O:=fun _=>False) (aFX x hx)).length;simp at this;omega
      obtain⟨l,m,N,Y,g4⟩:=aDe (vs:=(bw (zs.length*sz)).map (z.cells[· % sz]!)) (by subst y;simp[bd]) r (aDJ k F aFX) L G;have D:¬(len*sz>2 ^ 24):=by omega
      have i:(execOp ρ o).run C.P w= .ok (.value (.slice (some ⟨w.heap.size,0,none⟩) len len)) (w.alloc (.cells l e)):=by
       simp only[execOp,ho,Instr.buildSlice,Sem.run_bind,run_underlying he,Result.andThen_ok,run_sizeOf arX,hs,D,if_false,bind_pure_comp,Sem.run_map,Sem.run_ite,Sem.run_pure];have J:(zeroValue e).run C.P w= .ok z w:=by simp[zeroValue,typeInfo,arX,hz]
       have d:(bA (fun x=>(x.1,ρ x.2)) parts).toList=parts.toList.map (fun x=>(x.1,ρ x.2)):=by simp
       rw[I]at m
       by_cases n:len*sz=0
       ·have p:∀(f:Nat->Value),bA f (bw (len*sz))= #[]:=by intro f;rw[n];simp
        rw[p]at m;rw[n]at p;simp only[n,if_true,d,p,m];simp only[newRow,Sem.run_map,run_newObj_alloc,bind_pure_comp,Result.andThen_ok]
       ·simp only[n,if_false,J,Result.andThen_ok,k,d,m,newRow,Sem.run_map,run_newObj_alloc,bind_pure_comp]
      rw[i];have b:xs.length=len:=by omega
      have j:=N.length;have v:(flat xs).length=len*sz:=by rw[flat_length Y,b]
      obtain⟨t1,t2⟩:=ayl (A:=⟨sz,xs,0,1⟩) (loc:=some (w.heap.size,0,len*sz)) T (Later.alloc w (.cells l e)) g c (fun _ hh=>by cases hh) (fun W o' e' hh=>by
       cases hh;refine⟨S _,_, .zero _ _,heap_alloc_new w _,?_,?_,?_⟩
       ·simp[b]
       ·rw[Array.length_toList]at j;omega
       ·rw[aL,aV (by rw[j,v,b];exact S _)]
        exact N)
      refine⟨_,_,_,Z,t1,t2, .tsl (by simp) fun B R=> ?_⟩;have s:B=⟨sz,xs,0,1⟩:=by simp at R;simp[R]
      subst s;refine⟨S _,fun _=>⟨some (w.heap.size,0,len*sz),by simp[<-T.aoc],az _, .inl ⟨len,?_,?_,?_⟩⟩⟩
      ·simp[b]
      ·simp[b]
      ·simp
     ·cases a
    ·cases a
   ·cases a
  ·exact h.elim
 ·exact h.elim
def aDP:∀{xs:List DV} {l:List UInt8},bytesOf xs=some l->∃ns:List Int,xs=ns.map (DV.int .u8)/\l=ns.map fun n=>UInt8.ofNat n.toNat
 | [],l,h=>by simp only[bytesOf,Option.some.injEq]at h;subst h;exact⟨[],rfl,rfl⟩
 |x::xs,l,h=>by
  unfold bytesOf at h
  split at h
  ·rename_i a;cases a
  ·rename_i n c a
   cases a;rw[I]at h;obtain⟨b,h1,rfl⟩:=h;obtain⟨ns,rfl,rfl⟩:=aDP h1;exact⟨n::ns,rfl,rfl⟩
  ·cases h
def aLh:∀(ns:List Int) (s:ByteArray),ns.foldl (fun r n=>r.push (UInt8.ofNat n.toNat)) s=⟨s.data++(ns.map fun n=>UInt8.ofNat n.toNat).toArray⟩
 | [],s=>by simp
 |n::ns,s=>by
  rw[List.foldl_cons,aLh ns];simp[ByteArray.push]
def axh:∀ns:List Int,flat (ns.map (DV.int .u8))=ns.map (DV.int .u8)
 | []=>rfl
 |n::ns=>by rw[J,arC,axh ns];rfl
def aIv:∀{ns:List Int} {vs:List Value},an3 w O vs (ns.map (DV.int .u8))->vs=ns.map (Value.int .u8)
 | [],_,h=>by cases h;rfl
 |n::ns,_,h=>by
  cases h with
  |cons h t=>rw[h.apB,aIv t];rfl
def aRp {s d:TypeId}{x:Operand}(ho:o.op= .convert s d x){args:List PV}(z:Sim C X w M E)(Q:anW w (away X M E) M E ((opsOf o.op).map ρ) args)
  (r:an0 C.P (.convert s d x) .b2s=true){base:Nat}(h:anG C base .b2s args M K KP):apo C X w M E K KP ((execOp ρ o).run C.P w):=by
 simp only[an0,H]at r;obtain⟨j,hd⟩:=r
 split at j
 ·rename_i e N
  split at j
  ·rename_i k hk
   simp only[decide_eq_true_eq]at j;subst j
   split at hd
   ·rename_i F
    simp only[ho,opsOf,J,Z]at Q;simp only[anG]at h
    split at h
    ·rename_i p
     obtain⟨v,R,L⟩:=apf Q;simp only[List.cons.injEq,and_true]at R;subst R;cases c:auD 0 p M with
     |none=>simp only[c]at h
     |some xs=>
      simp only[c]at h;cases B:bytesOf xs with
      |none=>simp only[B]at h
      |some l=>
       simp only[B]at h;obtain⟨ns,rfl,rfl⟩:=aDP B;have g:auD 1 p M=some (ns.map (DV.int .u8))/\∃a cap,ρ x= .slice a ns.length cap:=by
        unfold auD at c⊢
        split at c
        ·simp only[Option.some.injEq]at c
         subst c;obtain⟨a,cap,f⟩:=L.toD.aq0;exact⟨rfl,a,cap,by simpa using f⟩
        ·cases c
        ·rename_i k ver skip
         refine⟨c,?_⟩;rw[I]at c;obtain⟨A,u,O⟩:=c;obtain⟨t1,t2,_,_,t5⟩:=aHd z L u;have b:A.elems.length - skip=ns.length:=by have:=congrArg List.length O;simpa using this
         rcases t5 with⟨Y,o,e,vs,T,cap,_,_,_,_,_,(⟨h1,_⟩|⟨h1,_,a,h2⟩)⟩|⟨_,_,h1⟩
         ·exact⟨_,_,by rw[h1,b]⟩
         ·exact⟨_,_,by rw[h2,<-b];congr 1;omega⟩
         ·obtain⟨a,cap,f⟩:=h1.aq0
          exact⟨a,cap,by rw[f];congr 1;simpa using b⟩
        ·cases c
       obtain⟨g,a,cap,f⟩:=g;have q:∀y∈ns.map (DV.int .u8),y.fits 1=true:=by
        intro y hy;obtain⟨n,_,rfl⟩:=List.mem_map.1 hy;rfl
       obtain⟨W,n1,U,V⟩:=aGH z L g q;rw[axh]at V;have i:=aIv V;subst i;have D:(Conv.bytesToString (ρ x)).run C.P w= .ok (.string ⟨(ns.map fun n=>UInt8.ofNat n.toNat).toArray⟩) w:=by
        cases a with
        |none=>
         have:ns.length=0:=by
          have:=U C.P w (.refl w);rw[f,br]at this
          by_cases S:ns.length=0
          ·exact S
          ·exfalso
           simp[Builtin.firstCells]at this;exact S (by simp[this])
         have hn:=ap.1 this;subst hn;rw[f];simp[Conv.bytesToString]
         rfl
        |some a=>
         rw[f];have G:=U C.P w (.refl w);rw[f,br]at G;simp only[Builtin.firstCells,Nat.mul_one]at G;rw[run_bytesToString w a ns.length cap ns G,aLh];simp
       have t:(execOp ρ o).run C.P w= .ok (.value (.string ⟨(ns.map fun n=>UInt8.ofNat n.toNat).toArray⟩)) w:=by
        have m:=run_convert_bytes_string (P:=C.P) w s d e a ns.length cap N hk F;rw[<-f,D]at m;simp[execOp,ho,m]
       rw[t];exact .same z h (.d (.str _))
    ·exact h.elim
   ·cases hd
  ·cases j
 ·cases j
end
section
variable {C:Ctx}{X:Nat->Prop}{w w':World}{M:Mem}{E:Emb}{K:PV->Mem->Prop}{KP:DV->Mem->Prop}{O:Nat->Prop}
def aNO {k blk o e:Nat}{A:Arr}{el:List DV}{vs:Array Value}{vs':List Value}{T:TM vs.size}(h:Sim C X w M E)(hk:M.anK[k]?=some (some A))(ab:A.st=1)
  (n:E.ar[k]?=some (some (blk,o,e)))(W:w.heap[blk]?=some (.cells vs T.ty T.fr))(hl:el.length=A.elems.length)(hfit:∀x∈el,x.fits A.sz=true)(t:vs'.length=vs.size)
  (hr:an3 w (away X M E) ((vs'.drop o).take (A.elems.length*A.sz)) (flat el))(l:Wrote blk w w' vs' T.ty T.fr):
  Sim C X w' {M with anK:=M.anK.set k (some {A with elems:=el})} E/\From w M E w' {M with anK:=M.anK.set k (some {A with elems:=el})} E:=by
 generalize d:({A with elems:=el}:Arr)=A';have Z:k<M.anK.length:=(Y.1 hk).1;obtain⟨s1,s2,s3,s4⟩:=h.arr k A hk;obtain⟨N,ac,T',G,U,V,g5⟩:=s4 blk o e n;rw[W]at G;simp only[Option.some.injEq,Obj.cells.injEq]at G;obtain⟨rfl,_,_⟩:=G;have s:owned M E blk:= .inr ⟨k,A,o,e,hk,by omega,n⟩;have c:∀(j:Nat) (B:Arr),(M.anK.set k (some A'))[j]?=some (some B)->∃B':Arr,M.anK[j]?=some (some B')/\B.st=B'.st:=by
  intro j B O
  rcases anS O with⟨rfl,r⟩|⟨_,H⟩
  ·cases r;exact⟨A,hk,by rw[<-d]⟩
  ·exact⟨B,H,rfl⟩
 have v:From w M E w' {M with anK:=M.anK.set k (some A')} E:=
  {os:=l.os,tape:=l.tape,output:=l.output,size:=bh l.size.symm
   keep:=fun i o hi J=>l.aqc (fun e=>hi (e▸s)) J
   own:=by
    rintro i (⟨j,cs',h1,h2,h3⟩|⟨j,B,o,e,h1,h2,h3⟩)
    ·exact .inl (.inl ⟨j,cs',h1,h2,h3⟩)
    ·obtain⟨B',h1',hs⟩:=c j B h1
     exact .inl (.inr ⟨j,B',o,e,h1',hs▸h2,h3⟩)
   apD:=S _
   bx:=fun i cs' hi=>⟨rfl,cs',hi,rfl⟩
   aoc:=by simp
   ar:=fun j B O r=>by
    rcases anS r with⟨rfl,m⟩|⟨_,hB'⟩
    ·cases m
     refine⟨A,hk,by rw[<-d];exact S _,fun _=>⟨rfl,by rw[<-d],by rw[<-d];simp[hl],fun P=> ?_⟩⟩;rw[n]at P;cases P
    ·exact⟨B,hB',S _,fun _=>⟨rfl,rfl,rfl,fun _=>rfl⟩⟩}
 refine⟨?_,v⟩;exact
  {glob:=C.keeps w w' h.glob fun b u=>l.keep b (fun e=>N (e▸h.apF b u)),apF:=h.apF
   xlt:=fun i hi=>by rw[l.size];exact h.xlt i hi
   apD:=h.apD
   aoc:=by simp[h.aoc]
   box:=fun b cs' u=>by
    obtain⟨a,h1,h2,h3⟩:=h.box b cs' u;have g:a≠blk:=fun p=>h.ba b k cs' A blk o e u hk (p▸h1) n
    exact⟨a,h1,h2,h3.from v fun _ J=>l.aqc g J⟩
   arr:=fun j B r=>by
    rcases anS r with⟨rfl,m⟩|⟨I,hB'⟩
    ·cases m
     subst d;refine⟨s1,hfit,s3,fun a K p f=> ?_⟩;rw[n]at f;cases f;refine⟨N,_,T.cast (by simpa using t.symm),l.at_,by simp only[hl];exact U,by simpa[t]using V,?_⟩;simp only[hl];exact hr.from v
    ·obtain⟨h1,h2,h3,q⟩:=h.arr j B hB'
     refine⟨h1,h2,h3,fun a K p f=> ?_⟩;obtain⟨q1,vs',T',q2,q3,q4,q5⟩:=q a K p f;have g:a≠blk:=fun F=>I (h.aa j k B A blk K p o e hB' hk (F▸f) n)
     exact⟨q1,vs',T',l.aqc g q2,q3,q4,q5.from v⟩
   bb:=h.bb
   aa:=fun j Q B B' a L D o2 F h1 h2 h3 q=>by
    obtain⟨R,h1',_⟩:=c j B h1;obtain⟨z,h2',_⟩:=c Q B' h2;exact h.aa j Q R z a L D o2 F h1' h2' h3 q
   ba:=fun b j y B a L D h1 h2 h3 q=>by
    obtain⟨z,h2',_⟩:=c j B h2;exact h.ba b j y z a L D h1 h2' h3 q}
variable{ρ:Operand->Value}{o:Oper}{x:Operand}
def aPv {t:TypeId}{i:Nat}(ho:o.op= .range t x){args:List PV}(f:Sim C X w M E)(e:anW w (away X M E) M E ((opsOf o.op).map ρ) args)
  (a:an0 C.P (.range t x) (.rngS i)=true){base:Nat}(h:anG C base (.rngS i) args M K KP):apo C X w M E K KP ((execOp ρ o).run C.P w):=by
 simp only[an0]at a;simp only[ho,opsOf,J,Z]at e
 split at a
 ·rename_i d
  simp only[anG]at h
  split at h
  ·rename_i s
   obtain⟨h1,h2⟩:=h;obtain⟨v,g,l⟩:=apf e;simp only[List.cons.injEq,and_true]at g;subst g;have m:=l.toD.auZ;have b:base+i<M.boxes.length:=(Y.1 h1).1;have aI6:base+i<E.bx.length:=f.apD▸b;have c:(execOp ρ o).run C.P w= .ok (.value (.pointer (some ⟨w.heap.size,0,none⟩))) (w.alloc (.stringIter s 0)):=by
    simp only[execOp,ho,Instr.range,Sem.run_bind,run_underlying d,Result.andThen_ok,m,Sem.run_pure,run_newObj_alloc]
   rw[c];obtain⟨j,k⟩:=aJC (o:= .stringIter s 0) (cs:=[.ayN s 0]) f h1 fun _=>heap_alloc_new w _
   exact⟨_,_,_,h2,j,k, .av1 (cs:=[.ayN s 0]) (by simp[b]) (by simp[aI6]) rfl⟩
  ·exact h.elim
 ·cases a
def aPt {c:Bool}(ho:o.op= .next x c){args:List PV}(t:Sim C X w M E)(B:anW w (away X M E) M E ((opsOf o.op).map ρ) args)
  (m:an0 C.P (.next x c) .aKY=true){base:Nat}(h:anG C base .aKY args M K KP):apo C X w M E K KP ((execOp ρ o).run C.P w):=by
 simp only[an0]at m;subst m;simp only[ho,opsOf,J,Z]at B;simp only[anG]at h
 split at h
 ·rename_i b
  obtain⟨v,D,F⟩:=apf B;simp only[List.cons.injEq,and_true]at D;subst D
  split at h
  ·rename_i s pos e
   obtain⟨y,h⟩:=h;have i:M.boxes[b]?=some (some [.ayN s pos]):=by
    unfold Mem.box at e
    split at e
    ·rename_i cs u;cases e;exact u
    ·cases e
   generalize p:ρ x=vv at F;cases F with
   |av1 k j H=>
    rename_i a cs
    rw[i]at k;cases k;obtain⟨A,G,O,q⟩:=t.box b _ i;rw[j]at G;cases G;have q:w.heap[a]?=some (.stringIter s pos):=q;have g:(getObj a).run C.P w= .ok (.stringIter s pos) w:=by simp[getObj,Sem.run,q]
    have n:∀z:Obj,(setObj a z).run C.P w= .ok () {w with heap:=w.heap.setIfInBounds a z}:=fun z=>by simp[setObj,Sem.run,q]
    by_cases r:pos<s.size
    ·rw[if_pos r]at h
     have f:(execOp ρ o).run C.P w= .ok (.value (.tuple #[.bool true, .int .i64 pos, .int .i32 (Utf8.decode s pos).1])) {w with heap:=w.heap.setIfInBounds a (.stringIter s (pos+(Utf8.decode s pos).2))}:=by
      simp only[execOp,ho,Instr.next,p,Sem.run_bind,g,Result.andThen_ok,if_pos r,n,Sem.run_pure]
      rfl
     rw[f];have l:=aop q;obtain⟨I,L⟩:=aCN (cs':=[.ayN s (pos+(Utf8.decode s pos).2)]) t i y rfl rfl j (aCx w a (.stringIter s (pos+(Utf8.decode s pos).2)) l) fun N=>by
      show({w with heap:=w.heap.setIfInBounds a (.stringIter s (pos+(Utf8.decode s pos).2))}:World).heap[a]?=_
      simp[l]
     exact⟨_,_,_,h,I,L, .d (.tup (.cons (.bool _) (.cons (.int _ _) (.cons (.int _ _) .nil))))⟩
    ·rw[if_neg r]at h
     have f:(execOp ρ o).run C.P w= .ok (.value (.tuple #[.bool false])) w:=by
      simp only[execOp,ho,Instr.next,p,Sem.run_bind,g,Result.andThen_ok,if_neg r,Sem.run_pure]
     rw[f];exact .same t h (.d (.tup (.cons (.bool _) .nil)))
  ·exact h.elim
 ·exact h.elim
variable{P:Program}{name:String}
def aNK {t:TypeId}{f:FuncId}(h:azZ P t name=some f)(v:Value)(n:Nat)(w:World):(Go.method (n+1) t v name).run P w= .ok (f,v) w:=by
 unfold azZ at h
 split at h
 ·rename_i i g
  split at h
  ·rename_i m j
   split at h
   ·rename_i k
    split at h
    ·cases h
    ·rename_i d hd b
     split at h
     ·rename_i l e
      simp only[Option.some.injEq]at h;subst h;have c:m.path.toList=[]:=by simpa using k
      have a:(Go.receiverAt t (.val v) false (if m.path.isEmpty then some ((name.splitOn ".").getLastD name)else none)).run P w= .ok v w:=by
       unfold Go.receiverAt;simp only[Sem.run_bind,run_underlying b,Result.andThen_ok];cases d<;>first|rfl|exact absurd rfl (hd _)
      simp only[Go.method,Sem.run_bind,typeInfo,run_program,Result.andThen_ok,g,Sem.run_pure,j,c,Go.follow,e,a]
     ·cases h
    ·cases h
   ·cases h
  ·cases h
 ·cases h
def aRt {r:Operand}{a:String}{argTypes:Array TypeId}{ass:Array Operand}(ho:o.op= .call {callee:= .invoke r name,args:=ass,argTypes})
  {args:List PV}(g:anW w (away X M E) M E ((opsOf o.op).map ρ) args)(b:an0 C.P (.call {callee:= .invoke r name,args:=ass,argTypes}) (.inv a)=true){base:Nat}(h:anG C base (.inv a) args M K KP):apo C X w M E K KP ((execOp ρ o).run C.P w):=by
 simp only[an0,decide_eq_true_eq]at b;subst b;simp only[ho,opsOf,J]at g;simp only[anG]at h
 split at h
 ·rename_i t v i
  obtain⟨f,m,l,h⟩:=h;cases g with
  |cons h1 h2=>
   have hd:=h1.toD;generalize n:ρ r=vv at hd;cases hd with
   |iface p=>
    rename_i u
    have e:(execOp ρ o).run C.P w= .ok (.enter f (#[u]++ass.map ρ)) w:=by
     simp only[execOp,ho,resolve,n,Sem.run_bind,Sem.run_pure,Result.andThen_ok,invoke];have j:(#[Value.iface t u]++ass.map ρ)[0]?=some (.iface t u):=by rw[Array.getElem?_append_left (by simp)];rfl
     have k:(#[Value.iface t u]++ass.map ρ).extract 1 (#[Value.iface t u]++ass.map ρ).size=ass.map ρ:=by
      apply aF;simp only[Array.toList_extract,Array.toList_append,bj,List.extract_eq_take_drop,Array.size_append,Array.size_map,aD,List.length_singleton,List.singleton_append,a1,aL];rw[aV (by simp)]
     simp only[j,k,callMethod,Sem.run_bind,run_program,Result.andThen_ok];have c:C.P.types.size+Made.depth=(C.P.types.size+Made.depth - 1)+1:=by
      have:0<Made.depth:=by decide
      omega
     rw[c,aNK m];simp only[Result.andThen_ok,auh l]
    rw[e];exact⟨rfl,_,h,by simpa using anW.cons (.d p) h2⟩
 ·exact h.elim
variable{op:BinOp}{y:Operand}
def aRx {g:BinOp}{t u:TypeId}(ho:o.op= .binOp op t x y u){args:List PV}(s:Sim C X w M E)(m:anW w (away X M E) M E ((opsOf o.op).map ρ) args)
  (e:an0 C.P (.binOp op t x y u) (.shf g)=true){base:Nat}(h:anG C base (.shf g) args M K KP):apo C X w M E K KP ((execOp ρ o).run C.P w):=by
 simp only[an0,H,decide_eq_true_eq]at e;obtain⟨⟨rfl,_⟩,_⟩:=e;simp only[ho,opsOf,J,Z]at m;simp only[anG]at h
 split at h
 ·rename_i k a F b
  obtain⟨D,h⟩:=h;obtain⟨v,G,n,B,j⟩:=aps m;simp only[List.cons.injEq,and_true]at n;obtain⟨rfl,rfl⟩:=n;have i:=B.toD.apB;have l:=j.toD.apB;have A:(eqGuard op t x y (ρ x) (ρ y)).run C.P w= .ok () w:=avV (.inl ⟨_,_,i⟩) w;have p:¬b<0:=by omega
  have c:∀{v:Value} {d:DV},K (.d d) M->aof w (away X M E) v d->(binOp op t (ρ x) (ρ y)).run C.P w= .ok v w->apo C X w M E K KP ((execOp ρ o).run C.P w):=by
   intro v d q r z;have f:(execOp ρ o).run C.P w= .ok (.value v) w:=by simp[execOp,ho,A,z]
   rw[f];exact .same s q (.d r)
  split at h
  ·exact c h (.int _ _) (by rw[i,l];simp[binOp,Op.shift,p])
  ·exact c h (.int _ _) (by rw[i,l];simp[binOp,Op.shift,p])
  ·exact h.elim
 ·exact h.elim
def run_equalIn_iface_nil {t:TypeId}{ms:Array (String×TypeId)}(a:P.underlying t=some (.interface ms))(w:World)(d:Nat)(u:TypeId)(v:Value):(Op.equalIn (d+1) t (.iface u v) .nilIface).run P w= .ok false w:=by
 simp only[Op.equalIn,Sem.run_bind,run_underlying a,Result.andThen_ok,Sem.run_pure]
def run_equalIn_nil_nil {t:TypeId}{ms:Array (String×TypeId)}(a:P.underlying t=some (.interface ms))(w:World)(d:Nat):(Op.equalIn (d+1) t .nilIface .nilIface).run P w= .ok true w:=by
 simp only[Op.equalIn,Sem.run_bind,run_underlying a,Result.andThen_ok,Sem.run_pure]
def aJ3 {neq:Bool}{t u:TypeId}(ho:o.op= .binOp op t x y u)(p:∀v,ρ (.const v)=v){args:List PV}(q:Sim C X w M E)(l:anW w (away X M E) M E ((opsOf o.op).map ρ) args)
  (i:an0 C.P (.binOp op t x y u) (.axX neq)=true){base:Nat}(h:anG C base (.axX neq) args M K KP):apo C X w M E K KP ((execOp ρ o).run C.P w):=by
 simp only[an0,H]at i;obtain⟨⟨a,j⟩,s⟩:=i
 split at j
 ·rename_i ms k
  split at s
  ·simp only[ho,opsOf,J,Z,p]at l
   obtain⟨v,n⟩:∃v,v=ρ x:=⟨_,rfl⟩
   rw[<-n]at l;have e:∀b:Bool,(Op.equal t v .nilIface).run C.P w= .ok b w->(eqGuard op t x (.const .nilIface) v .nilIface).run C.P w= .ok () w->(execOp ρ o).run C.P w= .ok (.value (.bool (b !=neq))) w:=by
    intro b g r;cases op<;>simp only[ab,U]at a
    ·subst a
     simp only[execOp,ho,Sem.run_bind,p,<-n,r,Result.andThen_ok,binOp,g,Sem.run_pure];simp
    ·subst a
     simp only[execOp,ho,Sem.run_bind,p,<-n,r,Result.andThen_ok,binOp,g,Sem.run_pure];simp
   simp only[anG]at h
   split at h
   ·rename_i D B
    obtain⟨A,z,f,m,_⟩:=aps l;simp only[List.cons.injEq,and_true]at f;obtain⟨rfl,_⟩:=f;have hd:=m.toD;generalize c:v=vv at hd;cases hd with
    |iface hh=>
     subst c;rw[e false (run_equalIn_iface_nil k w 9999 _ _) (by unfold eqGuard;simp<;>split<;>simp)];exact .same q (by simpa using h) (.d (.bool _))
   ·obtain⟨A,z,f,m,_⟩:=aps l
    simp only[List.cons.injEq,and_true]at f;obtain⟨rfl,_⟩:=f;have hd:=m.toD;generalize c:v=vv at hd;cases hd with
    |nilIface=>
     subst c;rw[e true (run_equalIn_nil_nil k w 9999) (by unfold eqGuard;simp<;>split<;>simp)];exact .same q (by simpa using h) (.d (.bool _))
   ·exact h.elim
  ·cases s
 ·cases j
end
section
variable {C:Ctx}{X:Nat->Prop}{w:World}{M:Mem}{E:Emb}{K:PV->Mem->Prop}{KP:DV->Mem->Prop}{O:Nat->Prop}
variable{P:Program}
def asR {t e:TypeId}{a:Option Addr}(b:P.underlying t=some (.pointer e))(w:World)(d:Nat):(Op.equalIn (d+1) t (.pointer a) (.pointer none)).run P w= .ok a.isNone w:=by
 cases a<;>simp only[Op.equalIn,Sem.run_bind,run_underlying b,Result.andThen_ok,Sem.run_pure,a8,bc]
variable{ρ:Operand->Value}{o:Oper}{x y:Operand}
def aJ4 {op:BinOp}{neq:Bool}{t u:TypeId}(ho:o.op= .binOp op t x y u)(r:∀v,ρ (.const v)=v){args:List PV}(p:Sim C X w M E)(k:anW w (away X M E) M E ((opsOf o.op).map ρ) args)
  (m:an0 C.P (.binOp op t x y u) (.auJ neq)=true){base:Nat}(h:anG C base (.auJ neq) args M K KP):apo C X w M E K KP ((execOp ρ o).run C.P w):=by
 simp only[an0,H]at m;obtain⟨⟨g,n⟩,z⟩:=m
 split at n
 ·rename_i e i
  split at z
  ·simp only[ho,opsOf,J,Z,r]at k
   obtain⟨v,q⟩:∃v,v=ρ x:=⟨_,rfl⟩
   rw[<-q]at k;have f:∀b:Bool,(Op.equal t v (.pointer none)).run C.P w= .ok b w->(eqGuard op t x (.const (.pointer none)) v (.pointer none)).run C.P w= .ok () w->(execOp ρ o).run C.P w= .ok (.value (.bool (b !=neq))) w:=by
    intro b l s;cases op<;>simp only[ab,U]at g
    ·subst g
     simp only[execOp,ho,Sem.run_bind,r,<-q,s,Result.andThen_ok,binOp,l,Sem.run_pure];simp
    ·subst g
     simp only[execOp,ho,Sem.run_bind,r,<-q,s,Result.andThen_ok,binOp,l,Sem.run_pure];simp
   simp only[anG]at h
   split at h
   ·obtain⟨B,A,c,j,_⟩:=aps k
    simp only[List.cons.injEq,and_true]at c;obtain⟨rfl,_⟩:=c;generalize a:v=vv at j;cases j with
    |ptr _ _ _=>
     subst a;rw[f false (asR i w 9999) (by unfold eqGuard;simp<;>split<;>simp)];exact .same p (by simpa using h) (.d (.bool _))
   ·obtain⟨B,A,c,j,_⟩:=aps k
    simp only[List.cons.injEq,and_true]at c;obtain⟨rfl,_⟩:=c;have hd:=j.toD;generalize a:v=vv at hd;cases hd with
    |anY _ _ _=>
     subst a;rw[f false (asR i w 9999) (by unfold eqGuard;simp<;>split<;>simp)];exact .same p (by simpa using h) (.d (.bool _))
   ·obtain⟨B,A,c,j,_⟩:=aps k
    simp only[List.cons.injEq,and_true]at c;obtain⟨rfl,_⟩:=c;have hd:=j.toD;generalize a:v=vv at hd;cases hd with
    |nilPtr=>
     subst a;rw[f true (asR i w 9999) (by unfold eqGuard;simp<;>split<;>simp)];exact .same p (by simpa using h) (.d (.bool _))
   ·exact h.elim
  ·cases z
 ·cases n
variable{i:Operand}{sz len:Nat}
def aMh {t:TypeId}(ho:o.op= .indexAddr t x i){args:List PV}(G:Sim C X w M E)(r:anW w (away X M E) M E ((opsOf o.op).map ρ) args)
  (a:an0 C.P (.indexAddr t x i) (.aAi sz len)=true){base:Nat}(h:anG C base (.aAi sz len) args M K KP):apo C X w M E K KP ((execOp ρ o).run C.P w):=by
 simp only[an0]at a
 split at a
 ·rename_i n e B
  simp only[H,beq_iff_eq]at a;obtain⟨rfl,a⟩:=a
  split at a
  ·rename_i Q arX
   simp only[H,beq_iff_eq,decide_eq_true_eq]at a;obtain⟨A,I⟩:=a;have f:∀c p k m,ρ x= .pointer (some ⟨c,p,none⟩)->ρ i= .int k m->0<=m->m<(n:Int)->(execOp ρ o).run C.P w= .ok (.value (.pointer (some ⟨c,p+m.toNat*sz,none⟩))) w:=by
    intro c p k m h1 h2 L N;simp[execOp,ho,h1,h2,Instr.indexAt,Instr.sureAddr,asIntOf,run_underlying B,L,N,run_sizeOf arX,A,Addr.add_lit]
   simp only[ho,opsOf,J,Z]at r;simp only[anG]at h
   split at h
   ·rename_i b F k m
    obtain⟨v,u,j,l,g⟩:=aps r;simp only[List.cons.injEq,and_true]at j;obtain⟨rfl,rfl⟩:=j;have q:=g.toD.apB;generalize D:ρ x=vv at l;cases l with
    |ptr O s z=>
     rw[f _ _ _ _ D q h.1 h.2.1];exact .same G h.2.2 (.ptr O s z)
   ·rename_i cs k m
    obtain⟨v,u,j,l,g⟩:=aps r;simp only[List.cons.injEq,and_true]at j;obtain⟨rfl,rfl⟩:=j;have q:=g.toD.apB;have hd:=l.toD;generalize D:ρ x=vv at hd;cases hd with
    |anY s y hh=>
     rename_i c F T
     rw[f _ _ _ _ D q h.1 h.2.1];refine .same G h.2.2.2 (.d (.anY s y ?_));have:=hh.drop (m.toNat*sz);rw[aK,ao]at this;rw[aS];exact this
   ·exact h.elim
  ·cases a
 ·cases a
def aDT {agg:Bool}{sz:Nat}:∀{n:Nat} {cs:List DV},cs.length=n*sz->(agg=false->sz=1/\∀c∈cs,c.one=true)->flat (auF agg sz n cs)=cs/\(∀x∈auF agg sz n cs,x.cells.length=sz)/\(auF agg sz n cs).length=n
 |0,cs,h,_=>by
  have:cs=[]:=ap.1 (by omega);subst this;simp[auF,flat]
 |n+1,cs,h,i=>by
  have l:(cs.drop sz).length=n*sz:=by rw[aS,h,bv];omega
  have j:sz<=cs.length:=by rw[h,bv];omega
  obtain⟨h1,h2,g⟩:=aDT (agg:=agg) l fun e=>⟨(i e).1,fun c k=>(i e).2 c (ae k)⟩
  cases agg with
  |true=>
   refine⟨?_,?_,by simp[auF,g]⟩
   ·simp only[auF,cond_true]
    rw[flat,bf]
    show(DV.agg (cs.take sz)).cells++flat _=cs
    rw[h1];simp[DV.cells]
   ·intro x b
    simp only[auF,cond_true,a6]at b
    rcases b with rfl|b
    ·simp only[DV.cells,aH];omega
    ·exact h2 x b
  |false=>
   obtain⟨rfl,f⟩:=i rfl;obtain⟨c,a,rfl⟩:∃c a,cs=c::a:=by
    cases cs with
    |nil=>simp at j
    |cons c a=>exact⟨c,a,rfl⟩
   have d:c.cells=[c]:=by
    have:=f c (by simp);cases c<;>first|rfl|simp[DV.one]at this
   refine⟨?_,?_,by simp only[a1,aL]at g;simp[auF,g]⟩
   ·simp only[auF,cond_false,bq]
    rw[flat,bf]
    show c.cells++flat _=_
    rw[h1,d];simp
   ·intro x b
    simp only[auF,cond_false,bq,a6]at b
    rcases b with rfl|b
    ·rw[d];rfl
    ·exact h2 x b
def aPw {t:TypeId}{lo hi mx:Option Operand}{agg:Bool}(ho:o.op= .slice t x lo hi mx){args:List PV}(u:Sim C X w M E)(k:anW w (away X M E) M E ((opsOf o.op).map ρ) args)
  (a:an0 C.P (.slice t x lo hi mx) (.aHy agg sz len)=true){base:Nat}(h:anG C base (.aHy agg sz len) args M K KP):apo C X w M E K KP ((execOp ρ o).run C.P w):=by
 simp only[an0,H,Option.isNone_iff_eq_none]at a;obtain⟨⟨⟨a,rfl⟩,rfl⟩,rfl⟩:=a
 split at a
 ·rename_i n e i
  simp only[H,beq_iff_eq]at a;obtain⟨rfl,a⟩:=a
  split at a
  ·rename_i F arX
   simp only[H,beq_iff_eq,decide_eq_true_eq]at a;obtain⟨B,p⟩:=a;simp only[ho,opsOf,J,Z,Option.toList_none,aW]at k;simp only[anG]at h
   split at h
   ·rename_i cs
    obtain⟨m,b,h⟩:=h;obtain⟨v,l,A⟩:=apf k;simp only[List.cons.injEq,and_true]at l;subst l;have hd:=A.toD;generalize D:ρ x=vv at hd;obtain⟨q,r,s⟩:=aDT (n:=n) m b;cases hd with
    |anY y g hh=>
     rename_i f j T fz ws
     have c:(execOp ρ o).run C.P w= .ok (.value (.slice (some ⟨f,j,none⟩) n n)) w:=by
      by_cases z:n=0<;>simp[execOp,ho,D,Instr.sliceAt,Instr.sureAddr,run_underlying i,Instr.sliceBounds,run_sizeOf arX,z,Addr.add_lit]
     rw[c];refine .same u h (.d (.slice y g s r (S _) (fun _=>rfl) ?_));rw[q,<-m];exact hh
   ·exact h.elim
  ·cases a
 ·cases a
structure KeyLaw (P:Program) (key:TypeId) (ks:List Nat) (O:Nat->Prop) (w:World) (v:Value) (k:DV)where
 fnd:List MapEntry->Nat->Sem (Option (Nat×Value))
 nil:∀i,(fnd [] i).run P w= .ok none w
 cons:∀{e:MapEntry} {es:List MapEntry} {i:Nat} {d:DV} {t:Bool},aof w O e.key d->apO ks k d=some t->(fnd (e::es) i).run P w=if t then .ok (some (i,e.val)) w else(fnd es (i+1)).run P w
 find:∀{es:List MapEntry} {x:Option (Nat×Value)},(fnd es 0).run P w= .ok x w->(Instr.findKey key v es).run P w= .ok x w
 check:∀em:Bool,(Instr.checkKey em 10000 key v).run P w= .ok () w
 stays:∀{u:Value} {d:DV},aof w O u d->apO ks k d=some true->(Instr.keyThatStays u v).run P w= .ok v w
variable{ks:List Nat}
theorem aM8 {key:TypeId}(hk:aKJ P key ks=true){v:Value}{k:DV}(hv:aof w O v k)(hc:apO ks k k=some true):Nonempty (KeyLaw P key ks O w v k):=by
 unfold aKJ at hk
 split at hk
 ·rename_i fs a
  simp only[H,ab]at hk;obtain⟨b,o,A⟩:=hk;obtain⟨xs,rfl⟩:∃xs,k= .agg xs:=by cases k<;>first|exact⟨_,rfl⟩|simp[apO]at hc<;>simp[hc]at b
  simp only[apO,b,U,if_false]at hc;obtain⟨s,rfl,C⟩:=hv.awF;refine⟨⟨fun es i=>Instr.findAsking key (.agg s) es i,fun i=>by simp[Instr.findAsking],?_,?_,fun E=>ayt a o C hc E,?_⟩⟩
  ·intro e es i d t hd c
   obtain⟨j,rfl⟩:∃j,d= .agg j:=by cases d<;>first|exact⟨_,rfl⟩|simp[apO]at c
   simp only[apO,b,U,if_false]at c;obtain⟨ys,l,D⟩:=hd.awF;have z:(Op.equal key (.agg s) e.key).run P w= .ok t w:=by
    show(Op.equalIn 10000 key (.agg s) e.key).run P w= .ok t w
    have m:P.fieldsOf key=fs:=by simp[Program.fieldsOf,a]
    rw[l,run_equalIn_agg w 9999 key s ys (by rw[m];exact a) A,m];exact avG 9998 o (by simpa using C) (by simpa using D) c
   cases t<;>simp[Instr.findAsking,z]
  ·intro es x h
   rw[run_findKey_eq (P:=P) w (by rw[a])];exact h
  ·intro u d B hd
   obtain⟨j,rfl⟩:∃j,d= .agg j:=by cases d<;>first|exact⟨_,rfl⟩|simp[apO]at hd
   simp only[apO,b,U,if_false]at hd;obtain⟨ys,rfl,D⟩:=B.awF;obtain⟨b1,G⟩:=aFs C D hd;have aSd:Instr.sameBits 10000 (.agg ys) (.agg s)=true:=by
    simp only[Instr.sameBits,H,beq_iff_eq];exact⟨by simpa using b1.symm,G⟩
   simp only[Instr.keyThatStays,aSd,if_true,Sem.run_pure]
 ·rename_i q a
  obtain⟨y,n,rfl⟩:∃y n,k= .int y n:=by cases k<;>first|exact⟨_,_,rfl⟩|simp[apO,hk]at hc
  have I:=hv.apB;subst I;refine⟨⟨fun es i=>match Instr.findNow (.int q) (.int y n) es i with|some r=>pure r|none=>stuck "",fun i=>by simp[Instr.findNow],?_,?_,?_,?_⟩⟩
  ·intro e es i d t hd c
   obtain⟨p,g,rfl⟩:∃p g,d= .int p g:=by cases d<;>first|exact⟨_,_,rfl⟩|simp[apO]at c
   have l:=hd.apB;simp only[apO,hk,true_and]at c
   split at c
   ·rename_i f
    cases c;subst f;simp only[Instr.findNow,l,Instr.sameNow,if_true];cases J:n==g<;>simp
   ·cases c
  ·intro es x h
   simp only[Instr.findKey,Sem.run_bind,run_underlying a,Result.andThen_ok];cases F:Instr.findNow (.int q) (.int y n) es 0 with
   |none=>rw[F]at h;simp[stuck]at h
   |some r=>rw[F]at h;exact h
  ·intro E
   rw[show(10000:Nat)=9999+1 from rfl,Instr.checkKey];simp only[Sem.run_bind,run_underlying a,Result.andThen_ok,Sem.run_pure]
  ·intro u d B hd
   obtain⟨p,g,rfl⟩:∃p g,d= .int p g:=by cases d<;>first|exact⟨_,_,rfl⟩|simp[apO]at hd
   have l:=B.apB;simp only[apO,hk,true_and]at hd
   split at hd
   ·rename_i f
    simp only[Option.some.injEq,beq_iff_eq]at hd;subst f hd l;simp[Instr.keyThatStays,Instr.sameBits]
   ·cases hd
 ·cases hk
def ayk (ks:List Nat):List (DV×DV)->DV->Bool
 | [],_=>true
 |(a,_)::l,k=>match apO ks k a with|some true=>true|some false=>ayk ks l k|none=>false
def aIz {ks:List Nat}{k:DV}:∀{l:List (DV×DV)} {r:Option DV},asP ks l k=some r->ayk ks l k=true
 | [],_,_=>rfl
 |(c,v)::l,r,h=>by
  simp only[asP]at h;simp only[ayk];cases a:apO ks k c with
  |none=>simp[a]at h
  |some b=>cases b with
   |true=>rfl
   |false=>simp only[a]at h;exact aIz h
def aLF {ks:List Nat}{k v:DV}:∀{l d:List (DV×DV)},ayw ks l k v=some d->ayk ks l k=true
 | [],_,_=>rfl
 |(c,e)::l,r,h=>by
  simp only[ayw]at h;simp only[ayk];cases a:apO ks k c with
  |none=>simp[a]at h
  |some b=>cases b with
   |true=>rfl
   |false=>
    simp only[a,I]at h;obtain⟨l2,h,_⟩:=h;exact aLF h
def aLE {ks:List Nat}{k:DV}:∀{l d:List (DV×DV)},ayv ks l k=some d->ayk ks l k=true
 | [],_,_=>rfl
 |(c,e)::l,r,h=>by
  simp only[ayv]at h;simp only[ayk];cases a:apO ks k c with
  |none=>simp[a]at h
  |some b=>cases b with
   |true=>rfl
   |false=>
    simp only[a,I]at h;obtain⟨l2,h,_⟩:=h;exact aLE h
def aBA {P:Program}{key:TypeId}{ks:List Nat}{v:Value}{k:DV}(L:KeyLaw P key ks O w v k):∀(es:List MapEntry) (l:List (DV×DV)) (i:Nat),an3 w O (es.map (·.key)) (l.map (·.1))->an3 w O (es.map (·.val)) (l.map (·.2))->ayk ks l k=true->
  ∃x,(L.fnd es i).run P w= .ok x w/\
   ((x=none/\asP ks l k=some none/\(∀y,ayw ks l k y=some (l++ [(k,y)]))/\ayv ks l k=some l)\/
   (∃j u e c dv,x=some (i+j,u)/\es[j]?=some e/\j<l.length/\aof w O e.key c/\aof w O u dv/\apO ks k c=some true/\asP ks l k=some (some dv)/\(∀y,ayw ks l k y=some (l.set j (k,y)))/\ayv ks l k=some (l.eraseIdx j)))
 | [],[],i,_,_,_=>⟨none,L.nil i, .inl ⟨rfl,rfl,fun _=>rfl,rfl⟩⟩
 |e::es,(c,dv)::l,i,h1,h2,h=>by
  simp only[J]at h1 h2;cases h1 with
  |cons q m=>cases h2 with
   |cons A n=>
    simp only[ayk]at h;cases a:apO ks k c with
    |none=>simp[a]at h
    |some b=>
     have d:=L.cons (es:=es) (i:=i) q a;cases b with
     |true=>
      simp only[if_true]at d;exact⟨_,d, .inr ⟨0,e.val,e,c,dv,rfl,rfl,by simp,q,A,a,by simp[asP,a],fun y=>by simp[ayw,a],by simp[ayv,a]⟩⟩
     |false=>
      simp only[a]at h;simp only[U,if_false]at d;obtain⟨x,t,z⟩:=aBA L es l (i+1) m n h;refine⟨x,d.trans t,?_⟩
      rcases z with⟨rfl,o,r,p⟩|⟨j,u,s,f,g,rfl,o,r,p,B,C,D,E,F⟩
      ·exact .inl ⟨rfl,by simp[asP,a,o],fun y=>by simp[ayw,a,r],by simp[ayv,a,p]⟩
      ·exact .inr ⟨j+1,u,s,f,g,by simp;omega,by simpa using o,by simp;omega,p,B,C,by simp[asP,a,D],fun y=>by simp[ayw,a,E],by simp[ayv,a,F]⟩
 | [],_::_,_,h1,_,_=>by simp at h1;cases h1
 | _::_,[],_,h1,_,_=>by simp at h1;cases h1
def map_eraseIdx {α β:Type}(f:α->β):∀(l:List α) (j:Nat),(l.eraseIdx j).map f=(l.map f).eraseIdx j
 | [],_=>rfl
 | _::_,0=>rfl
 |a::l,j+1=>by simp[map_eraseIdx f l j]
def an3.eraseIdx {vs:List Value}{ds:List DV}(h:an3 w O vs ds)(j:Nat):an3 w O (vs.eraseIdx j) (ds.eraseIdx j):=by
 rw[aE,aE];exact(h.take j).append (h.drop (j+1))
def aJj {b:Nat}{l:List (DV×DV)}(i:Sim C X w M E)(a:M.box b=some [.apZ l]){v:Value}(n:Rep w (away X M E) M E v (.mref b)):
  ∃blk es clock,v= .map (some blk)/\E.bx[b]?=some blk/\M.boxes[b]?=some (some [.apZ l])/\w.heap[blk]?=some (.map es clock)/\an3 w (away X M E) (es.toList.map (·.key)) (l.map (·.1))/\an3 w (away X M E) (es.toList.map (·.val)) (l.map (·.2)):=by
 have c:M.boxes[b]?=some (some [.apZ l]):=by
  unfold Mem.box at a
  split at a
  ·rename_i cs f;cases a;exact f
  ·cases a
 cases n with
 |mref e d m=>
  rename_i blk cs
  rw[c]at e;cases e;obtain⟨g,h,q,p⟩:=i.box b _ c;rw[d]at h;cases h;obtain⟨es,clock,j,k,o⟩:=p;exact⟨blk,es,clock,rfl,d,c,j,k,o⟩
def aPp {t:TypeId}{c ok:Bool}{z:DV}(ho:o.op= .lookup t x i c){args:List PV}(V:Sim C X w M E)(U:anW w (away X M E) M E ((opsOf o.op).map ρ) args)
  (O:an0 C.P (.lookup t x i c) (.aAd ok ks z)=true){base:Nat}(h:anG C base (.aAd ok ks z) args M K KP):apo C X w M E K KP ((execOp ρ o).run C.P w):=by
 simp only[an0,H,beq_iff_eq]at O;obtain⟨rfl,g⟩:=O
 split at g
 ·rename_i aj e Q
  simp only[H]at g;obtain⟨N,A⟩:=g
  split at A
  ·rename_i ai arX
   split at A
   ·rename_i z' ac
    simp only[ho,opsOf,J,Z]at U;have ae:(zeroValue e).run C.P w= .ok z' w:=by simp[zeroValue,typeInfo,arX,ac]
    have p:∀(a:Nat) (es:Array MapEntry) (clock:Nat) (l:List (DV×DV)) (k:DV) (r:Option DV),ρ x= .map (some a)->w.heap[a]?=some (.map es clock)->an3 w (away X M E) (es.toList.map (·.key)) (l.map (·.1))->an3 w (away X M E) (es.toList.map (·.val)) (l.map (·.2))->
      aof w (away X M E) (ρ i) k->apO ks k k=some true->asP ks l k=some r->K (.d (ay4 c z r)) M->apo C X w M E K KP ((execOp ρ o).run C.P w):=by
     intro a es clock l k r m W Y hv ab D q hK;obtain⟨L⟩:=aM8 (P:=C.P) N ab D;obtain⟨y,g1,g2⟩:=aBA L es.toList l 0 Y hv (aIz q);have F:=L.check es.isEmpty;have I:=L.find g1;have n:(getObj a).run C.P w= .ok (.map es clock) w:=by simp[getObj,Sem.run,W]
     rcases g2 with⟨rfl,R,_,_⟩|⟨j,u,e',dk,dv,rfl,_,_,_,S,_,T,_,_⟩
     ·rw[q]at R;cases R
      have f:(execOp ρ o).run C.P w= .ok (.value (if c then .tuple #[z', .bool false]else z')) w:=by
       simp only[execOp,ho,Instr.lookup,Sem.run_bind,run_underlying Q,Result.andThen_ok,m,n,Sem.run_pure,F,I,ae]
      rw[f];refine .same V hK (.d ?_);cases c
      ·exact asi A
      ·exact .tup (.cons (asi A) (.cons (.bool _) .nil))
     ·rw[q]at T;cases T
      have f:(execOp ρ o).run C.P w= .ok (.value (if c then .tuple #[u, .bool true]else u)) w:=by
       simp only[execOp,ho,Instr.lookup,Sem.run_bind,run_underlying Q,Result.andThen_ok,m,n,Sem.run_pure,F,I]
      rw[f];refine .same V hK (.d ?_);cases c
      ·exact S
      ·exact .tup (.cons S (.cons (.bool _) .nil))
    simp only[anG]at h
    split at h
    ·rename_i l k
     obtain⟨v,u',G,hr,s⟩:=aps U;simp only[List.cons.injEq,and_true]at G;obtain⟨rfl,rfl⟩:=G
     split at h
     ·rename_i r D q
      have hm:=hr.toD;generalize m:ρ x=vv at hm;cases hm with
      |map W ah Y hv=>exact p _ _ _ l k r m W Y hv s.toD D q h
     ·exact h.elim
    ·rename_i b k
     obtain⟨v,u',G,hr,s⟩:=aps U;simp only[List.cons.injEq,and_true]at G;obtain⟨rfl,rfl⟩:=G
     split at h
     ·rename_i l B
      split at h
      ·rename_i r D q
       obtain⟨a,es,clock,R,q2,q3,S,q5,T⟩:=aJj V B hr;exact p _ _ _ l k r R S q5 T s.toD D q h
      ·exact h.elim
     ·exact h.elim
    ·exact h.elim
   ·cases A
  ·cases A
 ·cases g
def aPr {t:TypeId}(ho:o.op= .mapUpdate t x i y){args:List PV}(hS:Sim C X w M E)(hA:anW w (away X M E) M E ((opsOf o.op).map ρ) args)
  (g:an0 C.P (.mapUpdate t x i y) (.aNi ks)=true){base:Nat}(h:anG C base (.aNi ks) args M K KP):apo C X w M E K KP ((execOp ρ o).run C.P w):=by
 simp only[an0]at g
 split at g
 ·rename_i ab e I
  simp only[ho,opsOf,J,Z]at hA;simp only[anG]at h
  split at h
  ·rename_i b k v
   obtain⟨v1,v2,v3,he,hr,r,H⟩:=aBb hA;simp only[List.cons.injEq,and_true]at he;obtain⟨rfl,rfl,rfl⟩:=he
   split at h
   ·rename_i l A
    obtain⟨S,h⟩:=h
    split at h
    ·rename_i Y hc F
     obtain⟨c,es,clock,N,Q,R,O,U,W⟩:=aJj hS A hr;obtain⟨L⟩:=aM8 (P:=C.P) g r.toD hc;obtain⟨z,g1,g2⟩:=aBA L es.toList l 0 U W (aLF F);have B:=L.check false;have p:=L.find g1;have m:(getObj c).run C.P w= .ok (.map es clock) w:=by simp[getObj,Sem.run,O]
     have G:=aop O;have n:∀o':Obj,(setObj c o').run C.P w= .ok () {w with heap:=w.heap.setIfInBounds c o'}:=fun o'=>by simp[setObj,Sem.run,O]
     have s:∀(d:Array MapEntry) (a:Nat),an3 w (away X M E) (d.toList.map (·.key)) (Y.map (·.1))->an3 w (away X M E) (d.toList.map (·.val)) (Y.map (·.2))->
       apo C X w M E K KP (.ok .skip {w with heap:=w.heap.setIfInBounds c (.map d a)}):=by
      intro d a p1 p2;obtain⟨s1,s2⟩:=aCN (cs':=[.apZ Y]) hS R S rfl rfl Q (aCx w c (.map d a) G) fun hf=>⟨d,a,by simp[G],p1.from hf,p2.from hf⟩
      exact⟨_,_,h,s1,s2⟩
     rcases g2 with⟨rfl,_,q2,_⟩|⟨j,u,en,dk,dv,rfl,q1,q2,q3,q4,q5,_,q7,_⟩
     ·rw[q2]at F;cases F
      have f:(execOp ρ o).run C.P w= .ok .skip {w with heap:=w.heap.setIfInBounds c (.map (es.push {key:=ρ i,val:=ρ y,born:=clock}) (clock+1))}:=by
       simp only[execOp,ho,Instr.mapUpdate,Sem.run_bind,run_underlying I,Result.andThen_ok,N,m,B,p,n];simp[Sem.run_pure]
      rw[f];refine s _ _ ?_ ?_
      ·simpa using U.append (.cons r.toD .nil)
      ·simpa using W.append (.cons H.toD .nil)
     ·rw[q7]at F;cases F
      have T:es[j]?=some en:=by simpa using q1
      have D:j<es.size:=aop T;have aSl:(Instr.keyThatStays (((es[j]?).map (·.key)).getD (ρ i)) (ρ i)).run C.P w= .ok (ρ i) w:=by
       simp only[T,aC,ai];exact L.stays q3 q5
      have f:(execOp ρ o).run C.P w= .ok .skip {w with heap:=w.heap.setIfInBounds c (.map (es.modify j fun e=>{e with key:=ρ i,val:=ρ y}) clock)}:=by
       simp only[aA]at p;simp only[execOp,ho,Instr.mapUpdate,Sem.run_bind,run_underlying I,Result.andThen_ok,N,m,B,p,aSl,n];simp[Sem.run_pure]
      rw[f];have hm:(es.modify j fun e=>{e with key:=ρ i,val:=ρ y}).toList=es.toList.set j {en with key:=ρ i,val:=ρ y}:=by
       apply be;intro q;rw[ax];simp only[au,aY]
       by_cases V:j=q
       ·subst V;rw[if_pos rfl,if_pos rfl,T,if_pos (by simpa using D)];rfl
       ·rw[if_neg V,if_neg V]
      refine s _ _ ?_ ?_
      ·rw[hm,aq,aq];exact U.set j r.toD
      ·rw[hm,aq,aq];exact W.set j H.toD
    ·exact h.elim
   ·exact h.elim
  ·exact h.elim
 ·cases g
def aPo {argTypes:Array TypeId}{ass:Array Operand}(ho:o.op= .call {callee:= .builtin .delete,args:=ass,argTypes}){args:List PV}(Y:Sim C X w M E)(W:anW w (away X M E) M E ((opsOf o.op).map ρ) args)
  (f:an0 C.P (.call {callee:= .builtin .delete,args:=ass,argTypes}) (.aNg ks)=true){base:Nat}(h:anG C base (.aNg ks) args M K KP):apo C X w M E K KP ((execOp ρ o).run C.P w):=by
 simp only[an0,H,beq_iff_eq]at f;obtain⟨h1,f⟩:=f;simp only[ho,opsOf]at W;simp only[anG]at h
 split at f
 ·rename_i T e i
  split at h
  ·rename_i b k
   obtain⟨v1,F,he,hr,R⟩:=aps W;have G:ass.map ρ= #[v1,F]:=by apply aF;simpa using he
   split at h
   ·rename_i l x
    obtain⟨O,h⟩:=h
    split at h
    ·rename_i U hc A
     obtain⟨s,D,rfl⟩:∃s D,argTypes= #[s,D]:=by
      obtain⟨l⟩:=argTypes
      match l,h1 with
      | [t,u],_=>exact⟨t,u,rfl⟩
     have i:C.P.underlying s=some (.map T e):=by simpa using i
     obtain⟨a,es,clock,rfl,J,N,I,Q,S⟩:=aJj Y x hr;obtain⟨L⟩:=aM8 (P:=C.P) f R.toD hc;obtain⟨z,g1,g2⟩:=aBA L es.toList l 0 Q S (aLE A);have y:=L.check es.isEmpty;have q:=L.find g1;have n:(getObj a).run C.P w= .ok (.map es clock) w:=by simp[getObj,Sem.run,I]
     have B:=aop I;have p:∀V:Obj,(setObj a V).run C.P w= .ok () {w with heap:=w.heap.setIfInBounds a V}:=fun V=>by simp[setObj,Sem.run,I]
     have m:∀{r:Value} {w':World},(Builtin.delete_ #[s,D] o.type #[.map (some a),F]).run C.P w= .ok r w'->(execOp ρ o).run C.P w= .ok (.value r) w':=by
      intro r w' hh;simp[execOp,ho,G,hh,go_sem]
     have v:∀(c:Array MapEntry),an3 w (away X M E) (c.toList.map (·.key)) (U.map (·.1))->an3 w (away X M E) (c.toList.map (·.val)) (U.map (·.2))->
       apo C X w M E K KP (.ok (.value (.tuple #[])) {w with heap:=w.heap.setIfInBounds a (.map c clock)}):=by
      intro c p1 p2;obtain⟨s1,s2⟩:=aCN (cs':=[.apZ U]) Y N O rfl rfl J (aCx w a (.map c clock) B) fun Z=>⟨c,clock,by simp[B],p1.from Z,p2.from Z⟩
      exact⟨_,_,_,h,s1,s2, .d (.tup .nil)⟩
     rcases g2 with⟨rfl,_,_,q3⟩|⟨j,u,en,dk,dv,rfl,q1,q2,_,_,_,_,_,q8⟩
     ·rw[q3]at A;cases A
      have g:(Builtin.delete_ #[s,D] o.type #[.map (some a),F]).run C.P w= .ok (.tuple #[]) {w with heap:=w.heap.setIfInBounds a (.map es clock)}:=by
       simp[Builtin.delete_,Sem.run_bind,run_underlying i,n,y,q,p]
      rw[m g];exact v _ Q S
     ·rw[q8]at A;cases A
      have g:(Builtin.delete_ #[s,D] o.type #[.map (some a),F]).run C.P w= .ok (.tuple #[]) {w with heap:=w.heap.setIfInBounds a (.map (es.eraseIdxIfInBounds j) clock)}:=by
       simp only[aA]at q;simp[Builtin.delete_,Sem.run_bind,run_underlying i,n,y,q,p]
      rw[m g];have hm:(es.eraseIdxIfInBounds j).toList=es.toList.eraseIdx j:=by simp
      refine v _ ?_ ?_
      ·rw[hm,map_eraseIdx,map_eraseIdx];exact Q.eraseIdx j
      ·rw[hm,map_eraseIdx,map_eraseIdx];exact S.eraseIdx j
    ·exact h.elim
   ·exact h.elim
  ·exact h.elim
 ·cases f
end
structure Lo where
 n:Nat
 ds:List Deferred
 ex:Bool
 fx:Option (Nat×Value)
section
variable {C:Ctx}{X:Nat->Prop}{w:World}{M:Mem}{E:Emb}{K:PV->Mem->Prop}{KP:DV->Mem->Prop}{lo:Lo}{ro:Option Nat}
def aHw {ρ:Operand->Value}(g:∀f,ρ (.func f)= .func (.func f) #[] #[])(e:∀v,ρ (.const v)=v){o:Oper}{op:Op}{p:POp}(ho:o.op=op){args:List PV}(d:Sim C X w M E)(c:anW w (away X M E) M E ((opsOf o.op).map ρ) args)
  (b:an0 C.P op p=true){base:Nat}(h:anG C base p args M K KP):apo C X w M E K KP ((execOp ρ o).run C.P w):=by
 have a:=b;unfold an0 at b
 split at b
 ·exact aJ5 (.inl ho) d c h
 ·exact aJ5 (.inr ho) d c h
 ·exact aHN (.inl ho) d c h
 ·exact aHN (.inr ho) d c h
 ·exact aPu ho d c h
 ·exact aMe ho d a h
 ·exact aRr ho d c h
 ·exact aMf ho d c a h
 ·exact aPq ho d c a h
 ·exact aPn ho d c b h
 ·exact aMn ho d c a h
 ·exact aMl ho d c h
 ·exact aRq ho d c a h
 ·exact aPh ho d c a h
 ·exact aMi ho e d c a h
 ·exact aUy ho d c a h
 ·exact aPi ho d c a h
 ·exact aRw ho d c a h
 ·exact aRv ho d c a h
 ·exact aPy ho d c a h
 ·exact aPx ho d c a h
 ·exact aJz ho d c a h
 ·exact aPj ho d c a h
 ·exact aPk ho d c a h
 ·exact aPl ho d c a h
 ·exact aRs ho d c a h
 ·simp only[H,beq_iff_eq]at b
  obtain⟨rfl,b⟩:=b;exact avP ho (g _) c b h
 ·simp only[H,beq_iff_eq]at b
  obtain⟨rfl,b⟩:=b;exact avP ho (g _) c b (aLD h)
 ·simp only[H,beq_iff_eq]at b
  obtain⟨rfl,b⟩:=b;exact avP ho (g _) c b (auX h)
 ·simp only[H,beq_iff_eq]at b
  obtain⟨rfl,b⟩:=b;exact avP ho (g _) c b (auX (aJA h))
 ·simp only[H,beq_iff_eq]at b
  obtain⟨rfl,b⟩:=b;exact avP ho (g _) c b (aGZ h)
 ·simp only[H,beq_iff_eq]at b
  obtain⟨rfl,b⟩:=b;exact avP ho (g _) c b (auX (aCI h))
 ·exact aMg ho d c h
 ·exact aBs ho d c a h
 ·exact aPf ho d c a h
 ·exact aPg ho d c a h
 ·exact aRu ho d c a h
 ·exact aPm ho d c a h
 ·subst b
  exact aDQ ho (.inl ⟨rfl,rfl⟩) d (by simpa[ho,opsOf]using c) h
 ·simp only[ab]at b
  subst b;exact aDQ ho (.inr ⟨rfl,rfl⟩) d (by simpa[ho,opsOf]using c) h
 ·exact aMm ho d c h
 ·exact aRp ho d c a h
 ·exact aRy ho d c a h
 ·exact aJ3 ho e d c a h
 ·exact aPv ho d c a h
 ·exact aPt ho d c a h
 ·exact aRt ho c a h
 ·exact aRx ho d c a h
 ·exact aMj ho d h
 ·exact aPs ho d c a h
 ·exact aJ4 ho e d c a h
 ·exact aMh ho d c a h
 ·exact aPw ho d c a h
 ·exact aPp ho d c a h
 ·exact aPr ho d c a h
 ·exact aPo ho d c a h
 ·exact aMk ho d c a h
 ·cases b
def aKZ:Operand->Opd->Bool
 | .tmp m, .t k=>m==k
 | .const v, .c x=>arT x v
 | .func f, .c (.func (.func a) [] [])=>f==a
 | _,_=>false
def aDo:List Operand->List Opd->Bool
 | [],[]=>true
 |x::xs,y::ys=>aKZ x y&&aDo xs ys
 | _,_=>false
def okM (n:Nat)(X:Nat->Prop)(ds:List Deferred)(w:World):Prop:=
 (∀d∈ds,∃D,d.target= .collected D/\n<=D/\X D/\w.heap[D]?=some (.deferred (some [])))/\ds.Pairwise (fun d a=>d.target≠a.target)
def okD (lo:Lo)(X:Nat->Prop)(ds:List Deferred)(w:World):Prop:=∃ms,ds=ms++lo.ds/\okM lo.n X ms w/\(lo.ex=true->ms=[])
def aVx {n:Nat}{X:Nat->Prop}{w:World}:okM n X [] w:=⟨fun _ h=>by simp at h, .nil⟩
variable{ds:List Deferred}{ex:Bool}{fx:Option (Nat×Value)}
def ax4 {n:Nat}{X:Nat->Prop}{w:World}:okD ⟨n,ds,ex,fx⟩ X ds w:=⟨[],rfl,aVx,fun _=>rfl⟩
def Sim.aA7 (h:Sim C X w M E){b:Nat}(ho:owned M E b):¬X b:=by
 rcases ho with⟨i,cs,h1,_,h2⟩|⟨k,A,o,e,h1,_,h2⟩
 ·obtain⟨c,a,d,_⟩:=h.box i cs h1
  rw[h2]at a;cases a;exact d
 ·exact((h.arr k A h1).2.2.2 _ _ _ h2).1
variable{w':World}
def okM.keep {n:Nat}(h:okM n X ds w)(hk:∀b o,X b->w.heap[b]?=some o->w'.heap[b]?=some o):okM n X ds w':=
 ⟨fun d hd=>by obtain⟨D,h1,h2,a,c⟩:=h.1 d hd;exact⟨D,h1,h2,a,hk D _ a c⟩,h.2⟩
def okD.keep {lo:Lo}{ds:List Deferred}{w':World}(h:okD lo X ds w)(hk:∀b o,X b->w.heap[b]?=some o->w'.heap[b]?=some o):okD lo X ds w':=by
 obtain⟨ms,h1,h2,a⟩:=h;exact⟨ms,h1,h2.keep hk,a⟩
def okD.from {lo:Lo}{M':Mem}{E':Emb}(h:okD lo X ds w)(a:Sim C X w M E)(hf:From w M E w' M' E'):okD lo X ds w':=
 h.keep fun b o e d=>hf.keep b o (fun c=>a.aA7 c e) d
def RF (ro:Option Nat):Fence:={Fence.wide with round:=ro}
variable{P:Program}{f:FuncId}
def aFu {ro:Option Nat}{n:Nat}{args:Array Value}{w:World}{R:Ending->World->Prop}(h:Calls P f args w R):CallsIn (RF ro) n P f args w R:=(callsIn_wide (n:=n)).2 h
structure InS (C:Ctx) (X:Nat->Prop) (lo:Lo) (n:Nat) (s:St) (a:Act) (w:World) (E:Emb):Prop where
 sim:Sim C X w s.mem E
 env:∀t,Rep w (away X s.mem E) s.mem E (a.eval (.tmp t)) (look s.env t)
 size:a.tmps.size=n
 defers:okD lo X a.defers w
 fix:∀q,lo.fx=some q->a.eval (.tmp q.1)=q.2
variable{s:St}{a:Act}
def aJM {n:Nat}(h:InS C X lo n s a w E){x:Operand}{y:Opd}(b:aKZ x y=true):Rep w (away X s.mem E) s.mem E (a.eval x) (s.val y):=by
 unfold aKZ at b
 split at b
 ·simp only[beq_iff_eq]at b;subst b;exact h.env _
 ·exact .d (asi b)
 ·simp only[beq_iff_eq]at b
  subst b;exact .d (.func .nil .nil)
 ·cases b
def aLW {n:Nat}{s:St}{a:Act}(h:InS C X lo n s a w E):∀{xs:List Operand} {ys:List Opd},aDo xs ys=true->anW w (away X s.mem E) s.mem E (xs.map a.eval) (ys.map s.val)
 | [],[],_=> .nil
 |x::xs,y::ys,b=>by
  simp only[aDo,H]at b;exact .cons (aJM h b.1) (aLW h b.2)
 | [],_::_,b=>by simp[aDo]at b
 | _::_,[],b=>by simp[aDo]at b
def atx {d t:Nat}{v:Value}:(a.put (some d) v).eval (.tmp t)=if t=d/\d<a.tmps.size then v else a.eval (.tmp t):=by
 simp only[Act.put,Act.eval,aw,Array.getElem?_setIfInBounds]
 by_cases h:d=t
 ·subst h
  by_cases h2:d<a.tmps.size
  ·simp[h2]
  ·simp[h2]
 ·have:¬t=d:=fun e=>h e.symm
  simp[h,this]
def InS.put {n:Nat}{s:St}{a:Act}{M':Mem}{w':World}{E':Emb}(h:InS C X lo n s a w E)(f:Sim C X w' M' E')(hf:From w s.mem E w' M' E'){dst:Option Nat}(b:∀q,lo.fx=some q->dst≠some q.1)(hd:dst.all (·<n)=true){v:Value}{p:PV}
  (g:dst.isSome=true->Rep w' (away X M' E') M' E' v p):InS C X lo n ⟨put s.env dst p,M'⟩ (a.put dst v) w' E':={
 sim:=f
 env:=fun t=>by
  cases dst with
  |none=>simpa[Am.put,Act.put]using(h.env t).from hf
  |some d=>
   simp only[Option.all_some,decide_eq_true_eq]at hd;rw[atx];simp only[Am.put,look]
   by_cases hdt:t=d
   ·subst hdt
    simp only[beq_self_eq_true,cond_true,true_and,h.size,hd,if_true];exact g rfl
   ·have:(d==t)=false:=by simp;exact fun e=>hdt e.symm
    simp only[this,cond_false,hdt,false_and,if_false];exact(h.env t).from hf
 size:=by cases dst<;>simp[Act.put,h.size]
 defers:=by
  have:(a.put dst v).defers=a.defers:=by cases dst<;>rfl
  rw[this];exact h.defers.from h.sim hf
 fix:=fun q c=>by
  cases dst with
  |none=>exact h.fix q c
  |some d=>
   rw[atx,if_neg fun hh=>b q c (by rw[<-hh.1])];exact h.fix q c}
def InS.later {n:Nat}{s:St}{a:Act}{w':World}(h:InS C X lo n s a w E)(hl:Later w w'):InS C X lo n s a w' E:={
 sim:=h.sim.later hl
 env:=fun t=>(h.env t).from (hl.from s.mem E)
 size:=h.size
 defers:=h.defers.from h.sim (hl.from s.mem E)
 fix:=h.fix}
def Post (C:Ctx)(X:Nat->Prop)(n:Nat)(w₀:World)(M₀:Mem)(E₀:Emb)(e:List Deferred)(ex:Bool)(fx:Option (Nat×Value))(Q:Ex->St->Prop):Exit->Act->World->Prop
 | .normal,a,w=>∃(c:Nat->Prop) (s:St) (E:Emb),(∀b,X b->c b)/\Q .normal s/\InS C c ⟨w₀.heap.size,e,ex,fx⟩ n s a w E/\From w₀ M₀ E₀ w s.mem E
 | .exit id,a,w=>∃(c:Nat->Prop) (s:St) (E:Emb),(∀b,X b->c b)/\Q (.exit id) s/\InS C c ⟨w₀.heap.size,e,ex,fx⟩ n s a w E/\From w₀ M₀ E₀ w s.mem E
 | .ret,a,w=>∃(c:Nat->Prop) (s:St) (E:Emb),(∀b,X b->c b)/\Q .ret s/\InS C c ⟨w₀.heap.size,e,ex,fx⟩ n s a w E/\From w₀ M₀ E₀ w s.mem E
 | .panic chain,a,w=>∃(c:Nat->Prop) (v:Value) (d:DV) (M:Mem) (E:Emb),(∀b,X b->c b)/\chain=[{v,recovered:=false}]/\Q (.panic d) ⟨[],M⟩/\Sim C c w M E/\From w₀ M₀ E₀ w M E/\aof w (away c M E) v d/\okD ⟨w₀.heap.size,e,ex,fx⟩ c a.defers w/\(∀q,fx=some q->a.eval (.tmp q.1)=q.2)
 | _,_,_=>False
def Post.up {X':Nat->Prop}{n:Nat}{w₀:World}{M₀:Mem}{E₀:Emb}{g:List Deferred}{Q:Ex->St->Prop}(hx:∀b,X b->X' b){e:Exit}{a:Act}(h:Post C X' n w₀ M₀ E₀ g ex fx Q e a w):Post C X n w₀ M₀ E₀ g ex fx Q e a w:=by
 cases e with
 |normal=>obtain⟨X2,s,E,h1,h2⟩:=h;exact⟨X2,s,E,fun b f=>h1 b (hx b f),h2⟩
 |exit id=>obtain⟨X2,s,E,h1,h2⟩:=h;exact⟨X2,s,E,fun b f=>h1 b (hx b f),h2⟩
 |ret=>obtain⟨X2,s,E,h1,h2⟩:=h;exact⟨X2,s,E,fun b f=>h1 b (hx b f),h2⟩
 |panic c=>obtain⟨X2,v,d,M,E,h1,h2⟩:=h;exact⟨X2,v,d,M,E,fun b f=>h1 b (hx b f),h2⟩
 |goto l=>exact h.elim
 |outgrown=>exact h.elim
def aJl {op:Op}{p:POp}(h:an0 P op p=true):∀c,op≠ .defer c:=by
 rintro c rfl;simp[an0]at h
def aOw (ops:Array Oper)(g:Option (Nat×Bool))(c:Option (Nat×Bool)):Bool:=
 match g,c with
 |none,none=>true
 |some (j,b),some (t,a)=>b==a&&decide ((ops[j]?).bind (·.dst)=some t)
 | _,_=>false
def aSP (P:Program)(n:Nat)(ops:Array Oper)(o:Oper)(p:PO):Bool:=
 an0 P o.op p.op&&aDo (opsOf o.op) p.args&&decide (o.dst=p.dst)&&p.dst.all (·<n)&&aOw ops o.guard p.g
def PO.plain (p:PO):PO:=match p.op with| .ays _ _ f=>{p with op:= .call f,args:=p.args.tail}| .aBq f=>{p with op:= .call f}| _=>p
def POp.noK:POp->Bool| .ays _ _ _=>false| .aBq _=>false| _=>true
def aSO (P:Program)(n:Nat)(ops:Array Oper)(o:Oper)(p:PO):Bool:=aSP P n ops o p.plain&&(decide (p.fl=0)||p.op.noK)
def SC.mono {f:FuncId}{args:List PV}{M:Mem}{K d:PV->Mem->Prop}{KP:DV->Mem->Prop}(h:SC C f args M K KP)(hk:∀v M',K v M'->d v M'):SC C f args M d KP:=by
 intro X w E a i g;refine(h X w E a i g).mono fun e w' b=> ?_
 cases e with
 |returned v=>
  obtain⟨p,M',E',h1,h2⟩:=b;exact⟨p,M',E',hk _ _ h1,h2⟩
 |panicked c=>exact b
 |outgrown=>exact b
variable{agg:Bool}
def aVp {n:Nat}{x:PV}{M:Mem}{K:PV->Prop}(h:aol agg n x M K):∃v,K v:=by
 unfold aol at h
 split at h
 ·split at h
  ·exact⟨_,h.2⟩
  ·exact h.elim
 ·exact⟨_,h.2⟩
 ·split at h
  ·exact⟨_,h.2⟩
  ·exact h.elim
 ·exact h.elim
variable{base:Nat}
def aFt {n:Nat}{args:List PV}(h:anG C base (.ays agg n f) args M K KP):anG C base (.call f) args.tail M K KP:=by
 cases args with
 |nil=>simp only[anG]at h
 |cons a b=>
  simp only[anG]at h;obtain⟨v,h⟩:=aVp h;simp only[anG,List.tail_cons];exact SC.mono h fun p c hh=>hh.2
def aQn {p:PO}{K:St->Prop}(h:aoT C base p K KP s)(b:p.plain.op=p.op\/avH base p.fl (p.args.tail.map s.val)):aoT C base p.plain K KP s:=by
 unfold PO.plain at b⊢
 split
 ·rename_i agg n f a
  have b:=b.resolve_left (by rw[a];simp);unfold aoT at h⊢;simp only;cases c:p.g with
  |none=>
   rw[c]at h;simp only[a]at h⊢;refine⟨b,?_⟩;have:=aFt h.2
   rwa [<-bu]at this
  |some q=>
   rw[c]at h;obtain⟨t,e⟩:=q;simp only[a]at h⊢
   split at h
   ·refine⟨fun i=>⟨b,?_⟩,h.2⟩
    have:=aFt (h.1 i).2
    rwa [<-bu]at this
   ·exact h
   ·exact h.elim
 ·rename_i f a
  have d:∀{j:PV->Mem->Prop},anG C base (.aBq f) (p.args.map s.val) s.mem j KP->anG C base (.call f) (p.args.map s.val) s.mem j KP:=fun⟨_,h1,_,k⟩=>SC.mono h1 k
  unfold aoT at h⊢;simp only;cases c:p.g with
  |none=>
   rw[c]at h;simp only[a]at h⊢;exact⟨h.1,d h.2⟩
  |some q=>
   rw[c]at h;obtain⟨t,e⟩:=q;simp only[a]at h⊢
   split at h
   ·exact⟨fun i=>⟨(h.1 i).1,d (h.1 i).2⟩,h.2⟩
   ·exact h
   ·exact h.elim
 ·exact h
variable{ops:Array Oper}
def aQh {n:Nat}(ac:∀q,lo.fx=some q->∀o∈ops,o.dst≠some q.1){i:Nat}{o:Oper}{p:PO}(hi:ops[i]?=some o)(W:aSP C.P n ops o p=true){s:St}{a:Act}(h:InS C X lo n s a w E){base:Nat}{K:St->Prop}{KP:DV->Mem->Prop}
  (B:aoT C base p K KP s){next:Act->World->Prop}{Q:Exit->Act->World->Prop}
  (O:∀s' N w' E',K s'->InS C X lo n s' N w' E'->From w s.mem E w' s'.mem E'->next N w')
  (G:∀d M' N w' E' v,KP d M'->Sim C X w' M' E'->From w s.mem E w' M' E'->aof w' (away X M' E') v d->okD lo X N.defers w'->(∀q,lo.fx=some q->N.eval (.tmp q.1)=q.2)->Q (.panic [{v,recovered:=false}]) N w'):
  wpOpIn (RF ro) 0 C.P ops Q i next a w:=by
 simp only[aSP,H,decide_eq_true_eq]at W;obtain⟨⟨⟨⟨hk,ha⟩,hd⟩,R⟩,V⟩:=W;have hA:=aLW h ha;have g:∀q,lo.fx=some q->p.dst≠some q.1:=fun q S=>by rw[<-hd];exact ac q S o (Array.mem_of_getElem? hi)
 have D:anG C base p.op (p.args.map s.val) s.mem (fun v M=>K ⟨put s.env p.dst v,M⟩) KP->o.wpIn (RF ro) 0 C.P a w next Q:=by
  intro ae;have:=aHw (ρ:=a.eval) (fun f=>rfl) (fun v=>rfl) (o:=o) rfl h.sim hA hk ae;unfold Oper.wpIn;refine⟨fun _ _=>trivial,?_⟩;rw[Oper.semAt_eq _ _ _ (aJl hk)];generalize (execOp a.eval o).run C.P w=r at this;cases r with
  |ok nx w'=>
   cases nx with
   |value v=>
    obtain⟨pv,M',E',h1,h2,T,h4⟩:=this;simp only[Oper.uponIn_value];rw[hd];exact O _ _ _ _ h1 (h.put h2 T g R (fun _=>h4)) T
   |skip=>
    obtain⟨M',E',h1,h2,T⟩:=this;simp only[Oper.uponIn_skip];rw[hd];exact O _ _ _ _ h1 (h.put h2 T g R (fun _=> .dead)) T
   |enter f args=>
    obtain⟨rfl,ps,h1,h2⟩:=this;simp only[Oper.uponIn_enter];have:=h1 X w' E args.toList h.sim h2;refine⟨fun h=>by simp[RF,Fence.wide]at h,CallsIn.mono (aFu (ro:=ro) (by simpa using this)) fun e L I=> ?_⟩;cases e with
    |returned v=>
     obtain⟨pv,M',E',m,y,b,z⟩:=I
     show next (a.put o.dst v) L
     rw[hd];exact O _ _ _ _ m (h.put y b g R (fun _=>z)) b
    |panicked chain=>
     obtain⟨v,d,M',E',rfl,m,y,b,z⟩:=I;exact G _ _ _ _ _ _ m y b z (h.defers.from h.sim b) h.fix
    |outgrown=>exact I.elim
   |round l f ak ass aj=>
    obtain⟨rfl,h1⟩:=this;simp only[Oper.uponIn_round];refine⟨fun h=>by simp[RF,Fence.wide]at h,RoundIn.mono (F:=RF ro) (n:=0 - 1) h1 fun e L I=> ?_⟩;cases e with
    |returned v=>
     obtain⟨pv,M',E',m,y,b,z⟩:=I
     show next (a.put o.dst v) L
     rw[hd];exact O _ _ _ _ m (h.put y b g R (fun _=>z)) b
    |panicked chain=>
     obtain⟨v,d,M',E',rfl,m,y,b,z⟩:=I;exact G _ _ _ _ _ _ m y b z (h.defers.from h.sim b) h.fix
    |outgrown=>exact I.elim
   | _=>exact this.elim
  |halt x w'=>
   cases x with
   |panic v=>
    obtain⟨d,M',E',m,y,b,z⟩:=this;exact G _ _ _ _ _ _ m y b z (h.defers.from h.sim b) h.fix
   | _=>exact this.elim
 unfold wpOpIn;simp only[hi];unfold aoT at B;unfold aOw at V
 split at V
 ·rename_i A J
  simp only[J]at B;have Z:Region.wanted o (yielded ops a.tmps)=true:=by simp[Region.wanted,A]
  simp only[Z,if_true];exact D B.2
 ·rename_i j c t ah A J
  simp only[H,beq_iff_eq,decide_eq_true_eq]at V;obtain⟨rfl,hj⟩:=V;simp only[J]at B
  split at B
  ·rename_i x hx
   obtain⟨r1,r2⟩:=B;have Y:=h.env t;rw[hx]at Y;have k:=Y.toD.atK;have hy:yielded ops a.tmps j=some x:=by
    simp only[yielded,hj,bp];simp only[Act.eval,aw]at k;cases S:a.tmps[t]? with
    |none=>rw[S]at k;simp[undef]at k
    |some u=>rw[S]at k;simp at k;simp[k]
   have Z:Region.wanted o (yielded ops a.tmps)=(x==c):=by simp[Region.wanted,A,hy]
   rw[Z]
   by_cases ab:x=c
   ·subst ab
    simp only[beq_self_eq_true,if_true];exact D (r1 rfl).2
   ·have:(x==c)=false:=by simp[ab]
    simp only[this,U,if_false];rw[hd];refine⟨fun _ _=>trivial,?_⟩;exact O _ _ _ _ (r2 (by cases x<;>cases c<;>simp_all)) (h.put h.sim (.refl _ _ _) g R (fun _=> .d (.tup .nil))) (.refl _ _ _)
  ·rename_i hx
   have Y:=h.env t;rw[hx]at Y;have hy:yielded ops a.tmps j=none:=by
    simp only[yielded,hj,bp];have k:=Y.toD;simp only[Act.eval,aw]at k;cases S:a.tmps[t]? with
    |none=>rfl
    |some u=>
     rw[S]at k;simp only[ai]at k;cases k
     rfl
   have Z:Region.wanted o (yielded ops a.tmps)=false:=by simp[Region.wanted,A,hy]
   simp only[Z,U,if_false];rw[hd];refine⟨fun _ _=>trivial,?_⟩;exact O _ _ _ _ B (h.put h.sim (.refl _ _ _) g R (fun _=> .d (.tup .nil))) (.refl _ _ _)
  ·exact B.elim
 ·cases V
def aK5 {n:Nat}(j:∀q,lo.fx=some q->∀o∈ops,o.dst≠some q.1){i:Nat}{o:Oper}{p:PO}(hi:ops[i]?=some o)(b:aSO C.P n ops o p=true){s:St}{a:Act}(h:InS C X lo n s a w E){base:Nat}{K:St->Prop}{KP:DV->Mem->Prop}
  (m:aoT C base p K KP s){next:Act->World->Prop}{Q:Exit->Act->World->Prop}
  (l:∀k e w' E',K k->InS C X lo n k e w' E'->From w s.mem E w' k.mem E'->next e w')
  (g:∀d M' e w' E' v,KP d M'->Sim C X w' M' E'->From w s.mem E w' M' E'->aof w' (away X M' E') v d->okD lo X e.defers w'->(∀q,lo.fx=some q->e.eval (.tmp q.1)=q.2)->Q (.panic [{v,recovered:=false}]) e w'):
  wpOpIn (RF ro) 0 C.P ops Q i next a w:=by
 simp only[aSO,H,Bool.or_eq_true,decide_eq_true_eq]at b;refine aQh j hi b.1 h (aQn m ?_) l g
 rcases b.2 with h2|h2
 ·exact .inr (by rw[h2];trivial)
 ·refine .inl ?_
  unfold PO.plain
  split
  ·rename_i agg n f c
   rw[c]at h2;cases h2
  ·rename_i f c
   rw[c]at h2;cases h2
  ·rfl
def aIh {n:Nat}{ops:Array Oper}(e:∀q,lo.fx=some q->∀o∈ops,o.dst≠some q.1){base:Nat}{K:St->Prop}{KP:DV->Mem->Prop}{Q:Exit->Act->World->Prop}{w₀:World}{M₀:Mem}{E₀:Emb}
  (u:∀g b w' E',K g->InS C X lo n g b w' E'->From w₀ M₀ E₀ w' g.mem E'->Q .normal b w')
  (c:∀d M' b w' E' v,KP d M'->Sim C X w' M' E'->From w₀ M₀ E₀ w' M' E'->aof w' (away X M' E') v d->okD lo X b.defers w'->(∀q,lo.fx=some q->b.eval (.tmp q.1)=q.2)->Q (.panic [{v,recovered:=false}]) b w'):
  ∀(ps:List PO) (k:Nat),(∀(j:Nat) (p:PO),ps[j]?=some p->∃o,ops[k+j]?=some o/\aSO C.P n ops o p=true)->∀(s:St) (a:Act) (w:World) (E:Emb),InS C X lo n s a w E->From w₀ M₀ E₀ w s.mem E->
   auQ C base ps K KP s->wpOpsIn (RF ro) 0 C.P ops Q (List.range' k ps.length) a w
 | [],_,_,s,a,w,E,h,i,r=>by
  simp only[aX,List.range'_zero,wpOpsIn];exact u s a w E r h i
 |p::ps,k,f,s,a,w,E,h,i,r=>by
  simp only[List.length_cons,List.range'_succ];rw[wpOpsIn_cons];obtain⟨o,A,B⟩:=f 0 p rfl;refine aK5 e A B h r (fun g b w' E' t m l=> ?_) (fun d M' b w' E' v h1 h2 x y z=>c d M' b w' E' v h1 h2 (i.trans x) y z);refine aIh e u c ps (k+1) (fun j q D=> ?_) g b w' E' m (i.trans l) t;obtain⟨F,h1,h2⟩:=f (j+1) q (by simpa using D);exact⟨F,by rw[show k+1+j=k+(j+1) by omega];exact h1,h2⟩
def aBV (P:Program)(n:Nat)(ops:Array Oper):List Oper->List PO->Bool
 | [],[]=>true
 |o::os,p::a=>aSO P n ops o p&&aBV P n ops os a
 | _,_=>false
def az0 {P:Program}{n:Nat}{ops:Array Oper}:∀{os:List Oper} {ps:List PO},aBV P n ops os ps=true->os.length=ps.length/\∀(j:Nat) (p:PO),ps[j]?=some p->∃o,os[j]?=some o/\aSO P n ops o p=true
 | [],[],_=>⟨rfl,fun j p h=>by simp at h⟩
 |o::os,p::ps,h=>by
  simp only[aBV,H]at h;obtain⟨h1,h2⟩:=az0 h.2;refine⟨by simp[h1],fun j q a=> ?_⟩;cases j with
  |zero=>simp at a;subst a;exact⟨o,rfl,h.1⟩
  |succ j=>simpa using h2 j q (by simpa using a)
 | [],_::_,h=>by simp[aBV]at h
 | _::_,[],h=>by simp[aBV]at h
def aJP {n:Nat}(e:∀q,lo.fx=some q->∀o∈ops,o.dst≠some q.1){ps:List PO}(f:aBV C.P n ops ops.toList ps=true){base:Nat}{K:St->Prop}{KP:DV->Mem->Prop}{Q:Exit->Act->World->Prop}
  {s:St}{a:Act}{w₀:World}{M₀:Mem}{E₀:Emb}(h:InS C X lo n s a w E)(hf:From w₀ M₀ E₀ w s.mem E)(r:auQ C base ps K KP s)
  (l:∀g b w' E',K g->InS C X lo n g b w' E'->From w₀ M₀ E₀ w' g.mem E'->Q .normal b w')
  (c:∀d M' b w' E' v,KP d M'->Sim C X w' M' E'->From w₀ M₀ E₀ w' M' E'->aof w' (away X M' E') v d->okD lo X b.defers w'->(∀q,lo.fx=some q->b.eval (.tmp q.1)=q.2)->Q (.panic [{v,recovered:=false}]) b w'):
  wpOpsIn (RF ro) 0 C.P ops Q (List.range ops.size) a w:=by
 obtain⟨h1,h2⟩:=az0 f;have:=aIh (ro:=ro) (C:=C) (X:=X) e l c ps 0 (fun j p m=>by
  obtain⟨o,i,k⟩:=h2 j p m;exact⟨o,by simpa using i,k⟩) s a w E h hf r
 rw[List.range_eq_range',show ops.size=ps.length by simpa using h1];exact this
end
section
variable {C:Ctx}{X:Nat->Prop}{w:World}{M:Mem}{E:Emb}{lo:Lo}
def apL {α:Type}{l:List α}{n i:Nat}{x:α}(h:(l.take n)[i]?=some x):i<n/\l[i]?=some x:=by
 rw[aM]at h
 split at h
 ·rename_i a;exact⟨a,h⟩
 ·cases h
def apt {α:Type}{l:List α}{n i:Nat}(h:i<n):(l.take n)[i]?=l[i]?:=by
 rw[aM,if_pos h]
def aGj {n m:Nat}{b:Nat}(h:owned ⟨M.boxes.take n,M.fz.filter (fun b=>decide (b<n)),M.anK.take m⟩ ⟨E.bx.take n,E.ar.take m⟩ b):owned M E b:=by
 rcases h with⟨i,cs,h1,h2,a⟩|⟨k,A,o,e,h1,h2,a⟩
 ·exact .inl ⟨i,cs,(apL h1).2,fun c=>h2 (List.mem_filter.2 ⟨c,by simpa using(apL h1).1⟩),(apL a).2⟩
 ·exact .inr ⟨k,A,o,e,(apL h1).2,h2,(apL a).2⟩
def azR {n m:Nat}:∀b,away X ⟨M.boxes.take n,M.fz.filter (fun b=>decide (b<n)),M.anK.take m⟩ ⟨E.bx.take n,E.ar.take m⟩ b->away X M E b:=fun _ h=>h.imp id aGj
mutual
def Rep.take {n m:Nat}{O O':Nat->Prop}(f:∀b,O' b->O b):∀{v:Value} {p:PV},p.upto n m=true->Rep w O M E v p->Rep w O' ⟨M.boxes.take n,M.fz.filter (fun b=>decide (b<n)),M.anK.take m⟩ ⟨E.bx.take n,E.ar.take m⟩ v p
 | _,_,_, .d h=> .d (h.weaken f)
 | _,_,a, .ptr j i k=>by
  simp only[PV.upto,decide_eq_true_eq]at a;exact .ptr (by simp only[apt a];exact j) (by simp only[apt a];exact i) k
 | _,_,a, .mref j i k=>by
  simp only[PV.upto,decide_eq_true_eq]at a;exact .mref (by simp only[apt a];exact j) (by simp only[apt a];exact i) k
 | _,_,a, .asz j i k=>by
  simp only[PV.upto,decide_eq_true_eq]at a;exact .asz (by simp only[apt a];exact j) (by simp only[apt a];exact i) k
 | _,_,a, .av1 j i k=>by
  simp only[PV.upto,decide_eq_true_eq]at a;exact .av1 (by simp only[apt a];exact j) (by simp only[apt a];exact i) k
 | _,_,a, .aqf r h=>by
  simp only[PV.upto,decide_eq_true_eq]at a;refine .aqf (by simp;omega) fun A e=> ?_
  simp only[apt a]at e⊢;obtain⟨l,o⟩:=h A e;refine⟨l,fun s=> ?_⟩;obtain⟨c,t,u,g⟩:=o s;refine⟨c,t,u,?_⟩;cases c with
  |none=>exact aof.weaken f g
  |some q=>exact g
 | _,_,a, .tsl r h=>by
  simp only[PV.upto,decide_eq_true_eq]at a;refine .tsl (by simp;omega) fun A e=> ?_
  simp only[apt a]at e⊢;obtain⟨l,o⟩:=h A e;refine⟨l,fun s=> ?_⟩;obtain⟨c,t,u,g⟩:=o s;refine⟨c,t,u,?_⟩;cases c with
  |none=>exact aof.weaken f g
  |some q=>exact g
 | _,_,a, .psl r h=>by
  simp only[PV.upto,decide_eq_true_eq]at a;refine .psl (by simp;omega) fun A e=> ?_
  simp only[apt a]at e⊢;obtain⟨l,o⟩:=h A e;refine⟨l,fun s=> ?_⟩;obtain⟨c,t,u,g⟩:=o s;refine⟨c,t,u,?_⟩;cases c with
  |none=>exact aof.weaken f g
  |some q=>exact g
 | _,_,_, .dead=> .dead
 | _,_,a, .func h1 h2=>by
  simp only[PV.upto,H]at a;exact .func (anW.aIF f a.1 h1) (anW.aIF f a.2 h2)
 | _,_,a, .agg h=>by
  simp only[PV.upto]at a;exact .agg (anW.aIF f a h)
 | _,_,a, .tup h=>by
  simp only[PV.upto]at a;exact .tup (anW.aIF f a h)
def anW.aIF {n m:Nat}{O O':Nat->Prop}(c:∀b,O' b->O b):∀{v:List Value} {p:List PV},aCZ n m p=true->anW w O M E v p->anW w O' ⟨M.boxes.take n,M.fz.filter (fun b=>decide (b<n)),M.anK.take m⟩ ⟨E.bx.take n,E.ar.take m⟩ v p
 | _,_,_, .nil=> .nil
 | _,_,a, .cons h t=>by
  simp only[aCZ,H]at a;exact .cons (Rep.take c a.1 h) (anW.aIF c a.2 t)
end
def aLV {n m:Nat}:∀{cs:List PV},(∀c∈cs,c.upto n m=true)->aCZ n m cs=true
 | [],_=>rfl
 |c::cs,h=>by
  simp only[aCZ,H];exact⟨h c (by simp),aLV fun d hd=>h d (by simp[hd])⟩
variable{s:St}{a:Act}
def aN3 {k nb na:Nat}{x:St}{w₀:World}{M₀:Mem}{E₀:Emb}(h:InS C X lo k s a w E)(hf:From w₀ M₀ E₀ w s.mem E)(hb:M₀.boxes.length<=nb)(Q:M₀.anK.length<=na)(hw:Weak nb na s x):
  ∃E',InS C X lo k x a w E'/\From w₀ M₀ E₀ w x.mem E':=by
 rcases hw with rfl|hw
 ·exact⟨E,h,hf⟩
 obtain⟨n,m,S,R,i,u,q⟩:=hw;obtain⟨H,I⟩:=x;simp only at i;subst i;refine⟨⟨E.bx.take n,E.ar.take m⟩,?_,?_⟩
 ·exact
   {size:=h.size,defers:=h.defers,fix:=h.fix
    env:=fun t=>by
     rcases u t with hd|⟨r,F⟩
     ·simp only at hd⊢;rw[hd];exact .dead
     ·simp only at r F⊢
      rw[r]at F⊢;exact(h.env t).take azR F
    sim:=
     {glob:=h.sim.glob,apF:=h.sim.apF,xlt:=h.sim.xlt
      apD:=by simp[h.sim.apD]
      aoc:=by simp[h.sim.aoc]
      box:=fun b cs f=>by
       obtain⟨h1,h2⟩:=apL f;obtain⟨d,q1,q2,q3⟩:=h.sim.box b cs h2;refine⟨d,by rw[apt h1];exact q1,q2,q3.move (fun _ B=>B) (fun b o hb B=>⟨B,fun h=>hb (azR b h)⟩) fun vs U D G=>G.aIF azR (aLV fun c L=> ?_)⟩;exact q (some cs) (ay f) c (by simpa using D c L)
      arr:=fun j A v=>by
       obtain⟨h1,h2⟩:=apL v;obtain⟨q1,q2,q3,G⟩:=h.sim.arr j A h2;refine⟨q1,q2,fun N=>by rw[apt h1];exact q3 N,fun d o e r=> ?_⟩;rw[apt h1]at r;obtain⟨r1,vs,T,r2,r3,r4,r5⟩:=G d o e r;exact⟨r1,vs,T,r2,r3,r4,r5.weaken azR⟩
      bb:=fun b J cs cs' d h1 h2 l p=>h.sim.bb b J cs cs' d (apL h1).2 (apL h2).2 (apL l).2 (apL p).2
      aa:=fun j O A y d o e P K h1 h2 l p=>h.sim.aa j O A y d o e P K (apL h1).2 (apL h2).2 (apL l).2 (apL p).2
      ba:=fun b j cs A d o e h1 h2 l p=>h.sim.ba b j cs A d o e (apL h1).2 (apL h2).2 (apL l).2 (apL p).2}}
 ·exact
   {os:=hf.os,tape:=hf.tape,output:=hf.output,size:=hf.size,keep:=hf.keep
    own:=fun b z=>hf.own b (aGj z)
    apD:=by have:=hf.apD;simp only[aH];omega
    bx:=fun b cs f=>by
     have g:b<n:=aP (Y.1 f).1 (by omega);obtain⟨h1,cs',h2,l⟩:=hf.bx b cs f;exact⟨by rw[apt g];exact h1,cs',by rw[apt g];exact h2,l⟩
    aoc:=by have:=hf.aoc;simp only[aH];omega
    ar:=fun j y M v=>by
     have g:j<m:=by omega
     rw[apt g]at v⊢;exact hf.ar j y M v}
def InS.frz {k:Nat}{s:St}{a:Act}{t:Nat}{d:DV}(h:InS C X lo k s a w E)(hd:datum s.mem (look s.env t)=some d):
  InS C X lo k ⟨(t, .d d)::s.env,s.mem.frz [look s.env t]⟩ a w E/\From w s.mem E w (s.mem.frz [look s.env t]) E:=by
 have b:=arp (M:=s.mem) (E:=E) [look s.env t] w;refine⟨{sim:=ard h.sim _,size:=h.size,defers:=h.defers,fix:=h.fix,env:=fun u=> ?_},b⟩;simp only[look]
 by_cases c:t=u
 ·subst c
  simp only[beq_self_eq_true,cond_true];exact .d (aqx h.sim (h.env t) hd (by simp))
 ·have:(t==u)=false:=by simp[c]
  simp only[this,cond_false];exact(h.env u).from b
def aD3 {k:Nat}{K:St->Prop}:∀{ts:List Nat} {s:St} {a:Act},atT ts K s->InS C X lo k s a w E->∃b,K b/\InS C X lo k b a w E/\From w s.mem E w b.mem E
 | [],s,a,h,c=>⟨s,h,c, .refl _ _ _⟩
 |t::ts,s,a,h,c=>by
  simp only[atT]at h
  split at h
  ·rename_i d hd
   obtain⟨h1,h2⟩:=c.frz hd;obtain⟨b,e,f,g⟩:=aD3 h h1;exact⟨b,e,f,h2.trans g⟩
  ·exact h.elim
def aBN {l:List (Nat×PV)}:∀{ks:List Nat} (t:Nat),look (apS l ks) t=look l t\/look (apS l ks) t= .dead
 | [],t=> .inr rfl
 |k::ks,t=>by
  simp only[apS,J,look]
  by_cases h:k=t
  ·subst h;simp
  ·have:(k==t)=false:=by simp[h]
   simp only[this,cond_false];exact aBN (ks:=ks) t
def InS.keep {k:Nat}{ks:List Nat}(h:InS C X lo k s a w E):InS C X lo k ⟨apS s.env ks,s.mem⟩ a w E:={
 sim:=h.sim
 size:=h.size
 defers:=h.defers
 fix:=h.fix
 env:=fun t=>by
  rcases aBN (l:=s.env) (ks:=ks) t with b|b
  ·simp only[b];exact h.env t
  ·simp only[b];exact .dead}
def InS.reserve {k:Nat}(n:Nat)(h:InS C X lo k s a w E):
  InS C X lo k ⟨s.env,{s.mem with boxes:=s.mem.boxes++aN n none}⟩ a w {E with bx:=E.bx++aN n 0}/\
  From w s.mem E w {s.mem with boxes:=s.mem.boxes++aN n none} {E with bx:=E.bx++aN n 0}:=by
 obtain⟨h1,h2⟩:=aEQ h.sim n;exact⟨{sim:=h1,size:=h.size,defers:=h.defers,fix:=h.fix,env:=fun t=>(h.env t).from h2},h2⟩
end
end Go.Am
