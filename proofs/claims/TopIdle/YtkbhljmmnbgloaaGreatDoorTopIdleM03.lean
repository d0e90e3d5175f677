/-
  Part 3 of a law of desks.
  Conditions: none.
-/
import Derived.Test.YtkbhljmmnbgloaaGreatDoorTopIdleM02
import Derived.RangeFuncRecord
import Derived.Sort.LoopGhostIn
set_option linter.all false
open Bool renaming and_eq_true->H,false_eq_true->U,and_eq_true_iff->Z,or_eq_true->aE,or_eq_false_iff->bc
open Array renaming getD_eq_getD_getElem?->S,getElem?_eq_getElem->an,getElem?_toList->aq,replicate->aw,getElem?_setIfInBounds_ne->az,getElem?_eq_some_iff->aL
open List renaming map_cons->W,map_nil->ab,getElem?_eq_some_iff->ai,pairwise_cons->am,getElem?_eq_getElem->ao,replicate->av,getElem?_map->ax,all_eq_true->aD,mem_cons->aR,range'_succ->a6,foldl_cons->a8,mem_of_getElem?->be,pairwise_append->bh,range'->bk,range_eq_range'->bl,map_congr_left->bo,getElem?_take->bp,range->bq,cons_append->br,length_cons->bt,length_drop->bu,length_take->bv,mem_append->bA,mapM_cons->bB,all_cons->bL,map_tail->bN,getD->bO,map_map->bR
open Iff renaming rfl->Y
open Option renaming map_eq_some_iff->ae,isNone_iff_eq_none->aM,getD_some->a7,bind_some->bw
open Nat renaming le_refl->ap,zero_le->bz,sub_zero->bS,zero_add->bX,add_mul->b0
open Function renaming comp->bE
open And renaming right->b5
namespace Go.Am
structure Lo where
 n:Nat
 ds:List Deferred
 ex:Bool
 fx:Option (Nat×Value)
section
variable {C:Ctx}{X:Nat->Prop}{w:World}{M:Mem}{E:Emb}{K:PV->Mem->Prop}{KP:DV->Mem->Prop}{lo:Lo}{ro:Option Nat}
def O1 {ρ:Operand->Value}(g:∀f,ρ (.func f)= .func (.func f) #[] #[])(e:∀v,ρ (.const v)=v){o:Oper}{op:Op}{p:POp}(ho:o.op=op){args:List PV}(c:Sim C X w M E)(b:aK w (away X M E) M E ((opsOf o.op).map ρ) args)
  (d:aJ C.P op p=true){base:Nat}(h:ak C base p args M K KP):eF C X w M E K KP ((execOp ρ o).run C.P w):=by
 have a:=d;unfold aJ at d
 split at d
 ·exact TY (.inl ho) c b h
 ·exact TY (.inr ho) c b h
 ·exact Pm (.inl ho) c b h
 ·exact Pm (.inr ho) c b h
 ·exact aak ho c b h
 ·exact WM ho c a h
 ·exact acv ho c b h
 ·exact WO ho c b a h
 ·exact aag ho c b a h
 ·exact Pn ho c b d h
 ·exact WT ho c b d h
 ·exact W9 ho c b a h
 ·exact WY ho c b h
 ·exact acu ho c b a h
 ·exact ZW ho c b a h
 ·exact ZX ho c b a h
 ·exact WS ho e c b a h
 ·exact aft ho c b a h
 ·exact ZY ho c b a h
 ·exact acC ho c b a h
 ·exact acB ho c b a h
 ·exact aap ho c b a h
 ·exact Po ho c b a h
 ·exact SI ho c b a h
 ·exact Z5 ho c b a h
 ·exact Z7 ho c b a h
 ·exact Z8 ho c b a h
 ·exact Z9 ho c b a h
 ·exact acy ho c b a h
 ·simp only[H,beq_iff_eq]at d
  obtain⟨rfl,d⟩:=d;exact zK ho (g _) b d h
 ·simp only[H,beq_iff_eq]at d
  obtain⟨rfl,d⟩:=d;exact zK ho (g _) b d (VP h)
 ·simp only[H,beq_iff_eq]at d
  obtain⟨rfl,d⟩:=d;exact zK ho (g _) b d (uI h)
 ·simp only[H,beq_iff_eq]at d
  obtain⟨rfl,d⟩:=d;exact zK ho (g _) b d (uI (SK h))
 ·simp only[H,beq_iff_eq]at d
  obtain⟨rfl,d⟩:=d;exact zK ho (g _) b d (uI (Jc h))
 ·exact WQ ho c b h
 ·exact TU ho c b a h
 ·exact ZV ho c b a h
 ·exact acA ho c b a h
 ·exact aad ho c b a h
 ·exact aac ho c a h
 ·subst d
  exact Kq ho (.inl ⟨rfl,rfl⟩) c (by simpa[ho,opsOf]using b) h
 ·simp only[Bool.not_eq_true']at d
  subst d;exact Kq ho (.inr ⟨rfl,rfl⟩) c (by simpa[ho,opsOf]using b) h
 ·exact WZ ho c b h
 ·exact WX ho c b a h
 ·exact WV ho c b a h
 ·exact acD ho c b a h
 ·exact acs ho c b a h
 ·exact acF ho c b a h
 ·exact aan ho c b a h
 ·exact aao ho c b a h
 ·exact Z4 ho c b a h
 ·exact acw ho c b a h
 ·exact TV ho e c b a h
 ·exact aal ho c b a h
 ·exact aaj ho c b a h
 ·exact acz ho b a h
 ·exact acE ho c b a h
 ·exact WU ho c h
 ·exact aai ho c b a h
 ·exact TW ho e c b a h
 ·exact WR ho c b a h
 ·exact aam ho c b a h
 ·exact aaf ho c b a h
 ·exact aah ho c b a h
 ·exact aae ho c b a h
 ·exact WW ho c b a h
 ·cases d
def Vj:Operand->Opd->Bool
 | .tmp m, .t k=>m==k
 | .const v, .c x=>lg x v
 | .func f, .c (.func (.func a) [] [])=>f==a
 | _,_=>false
def JH:List Operand->List Opd->Bool
 | [],[]=>true
 |x::xs,y::ys=>Vj x y&&JH xs ys
 | _,_=>false
def okM (n:Nat)(X:Nat->Prop)(ds:List Deferred)(w:World):Prop:=
 (∀d∈ds,∃D,d.target= .collected D/\n<=D/\X D/\w.heap[D]?=some (.deferred (some [])))/\ds.Pairwise (fun d a=>d.target≠a.target)
def okD (lo:Lo)(X:Nat->Prop)(ds:List Deferred)(w:World):Prop:=∃ms,ds=ms++lo.ds/\okM lo.n X ms w/\(lo.ex=true->ms=[])
def agB {n:Nat}{X:Nat->Prop}{w:World}:okM n X [] w:=⟨fun _ h=>by simp at h, .nil⟩
variable{ds:List Deferred}{ex:Bool}{fx:Option (Nat×Value)}
def BF {n:Nat}{X:Nat->Prop}{w:World}:okD ⟨n,ds,ex,fx⟩ X ds w:=⟨[],rfl,agB,fun _=>rfl⟩
def Sim.G5 (h:Sim C X w M E){b:Nat}(ho:owned M E b):¬X b:=by
 rcases ho with⟨i,cs,h1,_,h2⟩|⟨k,A,o,e,h1,_,h2⟩
 ·obtain⟨c,a,d,_⟩:=h.box i cs h1
  rw[h2]at a;cases a;exact d
 ·exact((h.arr k A h1).2.2.2 _ _ _ h2).1
variable{w':World}
def okM.keep {n:Nat}(h:okM n X ds w)(hk:∀b o,X b->w.heap[b]?=some o->w'.heap[b]?=some o):okM n X ds w':=
 ⟨fun d hd=>by obtain⟨D,h1,h2,a,c⟩:=h.1 d hd;exact⟨D,h1,h2,a,hk D _ a c⟩,h.2⟩
def okD.keep {lo:Lo}{ds:List Deferred}{w':World}(h:okD lo X ds w)(hk:∀b o,X b->w.heap[b]?=some o->w'.heap[b]?=some o):okD lo X ds w':=by
 obtain⟨ms,h1,h2,a⟩:=h;exact⟨ms,h1,h2.keep hk,a⟩
def okD.from {lo:Lo}{M':Mem}{E':Emb}(h:okD lo X ds w)(a:Sim C X w M E)(hf:From w M E w' M' E'):okD lo X ds w':=
 h.keep fun b o e d=>hf.keep b o (fun c=>a.G5 c e) d
def RF (ro:Option Nat):Fence:={Fence.wide with round:=ro}
variable{P:Program}{f:FuncId}
def MH {ro:Option Nat}{n:Nat}{args:Array Value}{w:World}{R:Ending->World->Prop}(h:Calls P f args w R):CallsIn (RF ro) n P f args w R:=(callsIn_wide (n:=n)).2 h
structure InS (C:Ctx) (X:Nat->Prop) (lo:Lo) (n:Nat) (s:St) (a:Act) (w:World) (E:Emb):Prop where
 sim:Sim C X w s.mem E
 env:∀t,Rep w (away X s.mem E) s.mem E (a.eval (.tmp t)) (look s.env t)
 size:a.tmps.size=n
 defers:okD lo X a.defers w
 fix:∀q,lo.fx=some q->a.eval (.tmp q.1)=q.2
variable{s:St}{a:Act}
def Tj {n:Nat}(h:InS C X lo n s a w E){x:Operand}{y:Opd}(b:Vj x y=true):Rep w (away X s.mem E) s.mem E (a.eval x) (s.val y):=by
 unfold Vj at b
 split at b
 ·simp only[beq_iff_eq]at b;subst b;exact h.env _
 ·exact .d (kR b)
 ·simp only[beq_iff_eq]at b
  subst b;exact .d (.func .nil .nil)
 ·cases b
def Wn {n:Nat}{s:St}{a:Act}(h:InS C X lo n s a w E):∀{xs:List Operand} {ys:List Opd},JH xs ys=true->aK w (away X s.mem E) s.mem E (xs.map a.eval) (ys.map s.val)
 | [],[],_=> .nil
 |x::xs,y::ys,b=>by
  simp only[JH,H]at b;exact .cons (Tj h b.1) (Wn h b.2)
 | [],_::_,b=>by simp[JH]at b
 | _::_,[],b=>by simp[JH]at b
def qx {d t:Nat}{v:Value}:(a.put (some d) v).eval (.tmp t)=if t=d/\d<a.tmps.size then v else a.eval (.tmp t):=by
 simp only[Act.put,Act.eval,S,Array.getElem?_setIfInBounds]
 by_cases h:d=t
 ·subst h
  by_cases h2:d<a.tmps.size
  ·simp[h2]
  ·simp[h2]
 ·have:¬t=d:=fun e=>h e.symm
  simp[h,this]
def InS.put {n:Nat}{s:St}{a:Act}{M':Mem}{w':World}{E':Emb}(h:InS C X lo n s a w E)(f:Sim C X w' M' E')(hf:From w s.mem E w' M' E'){dst:Option Nat}(b:∀q,lo.fx=some q->dst≠some q.1)(hd:dst.all (·<n)=true){v:Value}{p:PV}
  (g:dst.isSome=true->Rep w' (away X M' E') M' E' v p):InS C X lo n ⟨put s.env dst p,M'⟩ (a.put dst v) w' E':={
 sim:=f
 env:=fun t=>by
  cases dst with
  |none=>simpa[Am.put,Act.put]using(h.env t).from hf
  |some d=>
   simp only[Option.all_some,decide_eq_true_eq]at hd;rw[qx];simp only[Am.put,look]
   by_cases hdt:t=d
   ·subst hdt
    simp only[beq_self_eq_true,cond_true,true_and,h.size,hd,if_true];exact g rfl
   ·have:(d==t)=false:=by simp;exact fun e=>hdt e.symm
    simp only[this,cond_false,hdt,false_and,if_false];exact(h.env t).from hf
 size:=by cases dst<;>simp[Act.put,h.size]
 defers:=by
  have:(a.put dst v).defers=a.defers:=by cases dst<;>rfl
  rw[this];exact h.defers.from h.sim hf
 fix:=fun q c=>by
  cases dst with
  |none=>exact h.fix q c
  |some d=>
   rw[qx,if_neg fun hh=>b q c (by rw[<-hh.1])];exact h.fix q c}
def InS.later {n:Nat}{s:St}{a:Act}{w':World}(h:InS C X lo n s a w E)(hl:Later w w'):InS C X lo n s a w' E:={
 sim:=h.sim.later hl
 env:=fun t=>(h.env t).from (hl.from s.mem E)
 size:=h.size
 defers:=h.defers.from h.sim (hl.from s.mem E)
 fix:=h.fix}
def Post (C:Ctx)(X:Nat->Prop)(n:Nat)(w₀:World)(M₀:Mem)(E₀:Emb)(c:List Deferred)(ex:Bool)(fx:Option (Nat×Value))(Q:Ex->St->Prop):Exit->Act->World->Prop
 | .normal,a,w=>∃(X':Nat->Prop) (s:St) (E:Emb),(∀b,X b->X' b)/\Q .normal s/\InS C X' ⟨w₀.heap.size,c,ex,fx⟩ n s a w E/\From w₀ M₀ E₀ w s.mem E
 | .exit id,a,w=>∃(X':Nat->Prop) (s:St) (E:Emb),(∀b,X b->X' b)/\Q (.exit id) s/\InS C X' ⟨w₀.heap.size,c,ex,fx⟩ n s a w E/\From w₀ M₀ E₀ w s.mem E
 | .ret,a,w=>∃(X':Nat->Prop) (s:St) (E:Emb),(∀b,X b->X' b)/\Q .ret s/\InS C X' ⟨w₀.heap.size,c,ex,fx⟩ n s a w E/\From w₀ M₀ E₀ w s.mem E
 | .panic chain,a,w=>∃(X':Nat->Prop) (v:Value) (d:DV) (M:Mem) (E:Emb),(∀b,X b->X' b)/\chain=[{v,recovered:=false}]/\Q (.panic d) ⟨[],M⟩/\Sim C X' w M E/\From w₀ M₀ E₀ w M E/\bF w (away X' M E) v d/\okD ⟨w₀.heap.size,c,ex,fx⟩ X' a.defers w/\(∀q,fx=some q->a.eval (.tmp q.1)=q.2)
 | _,_,_=>False
def Post.up {X':Nat->Prop}{n:Nat}{w₀:World}{M₀:Mem}{E₀:Emb}{i:List Deferred}{Q:Ex->St->Prop}(hx:∀b,X b->X' b){e:Exit}{a:Act}(h:Post C X' n w₀ M₀ E₀ i ex fx Q e a w):Post C X n w₀ M₀ E₀ i ex fx Q e a w:=by
 cases e with
 |normal=>obtain⟨f,s,E,h1,h2⟩:=h;exact⟨f,s,E,fun b g=>h1 b (hx b g),h2⟩
 |exit id=>obtain⟨f,s,E,h1,h2⟩:=h;exact⟨f,s,E,fun b g=>h1 b (hx b g),h2⟩
 |ret=>obtain⟨f,s,E,h1,h2⟩:=h;exact⟨f,s,E,fun b g=>h1 b (hx b g),h2⟩
 |panic c=>obtain⟨f,v,d,M,E,h1,h2⟩:=h;exact⟨f,v,d,M,E,fun b g=>h1 b (hx b g),h2⟩
 |goto l=>exact h.elim
 |outgrown=>exact h.elim
def Si {op:Op}{p:POp}(h:aJ P op p=true):∀c,op≠ .defer c:=by
 rintro c rfl;simp[aJ]at h
def Zi (ops:Array Oper)(g:Option (Nat×Bool))(c:Option (Nat×Bool)):Bool:=
 match g,c with
 |none,none=>true
 |some (j,b),some (t,a)=>b==a&&decide ((ops[j]?).bind (·.dst)=some t)
 | _,_=>false
def adY (P:Program)(n:Nat)(ops:Array Oper)(o:Oper)(p:PO):Bool:=
 aJ P o.op p.op&&JH (opsOf o.op) p.args&&decide (o.dst=p.dst)&&p.dst.all (·<n)&&Zi ops o.guard p.g
def PO.plain (p:PO):PO:=match p.op with| .Cb _ _ f=>{p with op:= .call f,args:=p.args.tail}| .Hz f=>{p with op:= .call f}| _=>p
def POp.noK:POp->Bool| .Cb _ _ _=>false| .Hz _=>false| _=>true
def adX (P:Program)(n:Nat)(ops:Array Oper)(o:Oper)(p:PO):Bool:=adY P n ops o p.plain&&(decide (p.fl=0)||p.op.noK)
def SC.mono {f:FuncId}{args:List PV}{M:Mem}{K d:PV->Mem->Prop}{KP:DV->Mem->Prop}(h:SC C f args M K KP)(hk:∀v M',K v M'->d v M'):SC C f args M d KP:=by
 intro X w E a j i;refine(h X w E a j i).mono fun e w' b=> ?_
 cases e with
 |returned v=>
  obtain⟨p,M',g,h1,h2⟩:=b;exact⟨p,M',g,hk _ _ h1,h2⟩
 |panicked c=>exact b
 |outgrown=>exact b
variable{agg:Bool}
def ags {n:Nat}{x:PV}{M:Mem}{K:PV->Prop}(h:bP agg n x M K):∃v,K v:=by
 unfold bP at h
 split at h
 ·split at h
  ·exact⟨_,h.2⟩
  ·exact h.elim
 ·exact⟨_,h.2⟩
 ·split at h
  ·exact⟨_,h.2⟩
  ·exact h.elim
 ·exact h.elim
variable{base:Nat}
def MG {n:Nat}{args:List PV}(h:ak C base (.Cb agg n f) args M K KP):ak C base (.call f) args.tail M K KP:=by
 cases args with
 |nil=>simp only[ak]at h
 |cons a b=>
  simp only[ak]at h;obtain⟨v,h⟩:=ags h;simp only[ak,List.tail_cons];exact SC.mono h fun p M' hh=>hh.2
def abu {p:PO}{K:St->Prop}(h:dO C base p K KP s)(b:p.plain.op=p.op\/vK base p.fl (p.args.tail.map s.val)):dO C base p.plain K KP s:=by
 unfold PO.plain at b⊢
 split
 ·rename_i agg n f a
  have b:=b.resolve_left (by rw[a];simp);unfold dO at h⊢;simp only;cases c:p.g with
  |none=>
   rw[c]at h;simp only[a]at h⊢;refine⟨b,?_⟩;have:=MG h.2
   rwa [<-bN]at this
  |some q=>
   rw[c]at h;obtain⟨t,e⟩:=q;simp only[a]at h⊢
   split at h
   ·refine⟨fun i=>⟨b,?_⟩,h.2⟩
    have:=MG (h.1 i).2
    rwa [<-bN]at this
   ·exact h
   ·exact h.elim
 ·rename_i f a
  have d:∀{j:PV->Mem->Prop},ak C base (.Hz f) (p.args.map s.val) s.mem j KP->ak C base (.call f) (p.args.map s.val) s.mem j KP:=fun⟨_,h1,_,k⟩=>SC.mono h1 k
  unfold dO at h⊢;simp only;cases c:p.g with
  |none=>
   rw[c]at h;simp only[a]at h⊢;exact⟨h.1,d h.2⟩
  |some q=>
   rw[c]at h;obtain⟨t,e⟩:=q;simp only[a]at h⊢
   split at h
   ·exact⟨fun i=>⟨(h.1 i).1,d (h.1 i).2⟩,h.2⟩
   ·exact h
   ·exact h.elim
 ·exact h
variable{ops:Array Oper}
def abp {n:Nat}(ac:∀q,lo.fx=some q->∀o∈ops,o.dst≠some q.1){i:Nat}{o:Oper}{p:PO}(hi:ops[i]?=some o)(Y:adY C.P n ops o p=true){s:St}{a:Act}(h:InS C X lo n s a w E){base:Nat}{K:St->Prop}{KP:DV->Mem->Prop}
  (B:dO C base p K KP s){next:Act->World->Prop}{Q:Exit->Act->World->Prop}
  (O:∀s' N w' E',K s'->InS C X lo n s' N w' E'->From w s.mem E w' s'.mem E'->next N w')
  (G:∀d M' N w' E' v,KP d M'->Sim C X w' M' E'->From w s.mem E w' M' E'->bF w' (away X M' E') v d->okD lo X N.defers w'->(∀q,lo.fx=some q->N.eval (.tmp q.1)=q.2)->Q (.panic [{v,recovered:=false}]) N w'):
  wpOpIn (RF ro) 0 C.P ops Q i next a w:=by
 simp only[adY,H,decide_eq_true_eq]at Y;obtain⟨⟨⟨⟨hk,ha⟩,hd⟩,R⟩,W⟩:=Y;have hA:=Wn h ha;have g:∀q,lo.fx=some q->p.dst≠some q.1:=fun q T=>by rw[<-hd];exact ac q T o (Array.mem_of_getElem? hi)
 have D:ak C base p.op (p.args.map s.val) s.mem (fun v M=>K ⟨put s.env p.dst v,M⟩) KP->o.wpIn (RF ro) 0 C.P a w next Q:=by
  intro ae;have:=O1 (ρ:=a.eval) (fun f=>rfl) (fun v=>rfl) (o:=o) rfl h.sim hA hk ae;unfold Oper.wpIn;refine⟨fun _ _=>trivial,?_⟩;rw[Oper.semAt_eq _ _ _ (Si hk)];generalize (execOp a.eval o).run C.P w=r at this;cases r with
  |ok nx w'=>
   cases nx with
   |value v=>
    obtain⟨pv,M',E',h1,h2,V,h4⟩:=this;simp only[Oper.uponIn_value];rw[hd];exact O _ _ _ _ h1 (h.put h2 V g R (fun _=>h4)) V
   |skip=>
    obtain⟨M',E',h1,h2,V⟩:=this;simp only[Oper.uponIn_skip];rw[hd];exact O _ _ _ _ h1 (h.put h2 V g R (fun _=> .dead)) V
   |enter f args=>
    obtain⟨rfl,ps,h1,h2⟩:=this;simp only[Oper.uponIn_enter];have:=h1 X w' E args.toList h.sim h2;refine⟨fun h=>by simp[RF,Fence.wide]at h,CallsIn.mono (MH (ro:=ro) (by simpa using this)) fun e L I=> ?_⟩;cases e with
    |returned v=>
     obtain⟨pv,M',E',m,y,b,z⟩:=I
     show next (a.put o.dst v) L
     rw[hd];exact O _ _ _ _ m (h.put y b g R (fun _=>z)) b
    |panicked chain=>
     obtain⟨v,d,M',E',rfl,m,y,b,z⟩:=I;exact G _ _ _ _ _ _ m y b z (h.defers.from h.sim b) h.fix
    |outgrown=>exact I.elim
   |round l f am an body=>
    obtain⟨rfl,h1⟩:=this;simp only[Oper.uponIn_round];refine⟨fun h=>by simp[RF,Fence.wide]at h,RoundIn.mono (F:=RF ro) (n:=0 - 1) h1 fun e L I=> ?_⟩;cases e with
    |returned v=>
     obtain⟨pv,M',E',m,y,b,z⟩:=I
     show next (a.put o.dst v) L
     rw[hd];exact O _ _ _ _ m (h.put y b g R (fun _=>z)) b
    |panicked chain=>
     obtain⟨v,d,M',E',rfl,m,y,b,z⟩:=I;exact G _ _ _ _ _ _ m y b z (h.defers.from h.sim b) h.fix
    |outgrown=>exact I.elim
   | _=>exact this.elim
  |halt x w'=>
   cases x with
   |panic v=>
    obtain⟨d,M',E',m,y,b,z⟩:=this;exact G _ _ _ _ _ _ m y b z (h.defers.from h.sim b) h.fix
   | _=>exact this.elim
 unfold wpOpIn;simp only[hi];unfold dO at B;unfold Zi at W
 split at W
 ·rename_i A J
  simp only[J]at B;have hw:Region.wanted o (yielded ops a.tmps)=true:=by simp[Region.wanted,A]
  simp only[hw,if_true];exact D B.2
 ·rename_i j c t ai A J
  simp only[H,beq_iff_eq,decide_eq_true_eq]at W;obtain⟨rfl,hj⟩:=W;simp only[J]at B
  split at B
  ·rename_i x hx
   obtain⟨r1,r2⟩:=B;have Z:=h.env t;rw[hx]at Z;have k:=Z.toD.mg;have hy:yielded ops a.tmps j=some x:=by
    simp only[yielded,hj,bw];simp only[Act.eval,S]at k;cases T:a.tmps[t]? with
    |none=>rw[T]at k;simp[undef]at k
    |some u=>rw[T]at k;simp at k;simp[k]
   have hw:Region.wanted o (yielded ops a.tmps)=(x==c):=by simp[Region.wanted,A,hy]
   rw[hw]
   by_cases ab:x=c
   ·subst ab
    simp only[beq_self_eq_true,if_true];exact D (r1 rfl).2
   ·have:(x==c)=false:=by simp[ab]
    simp only[this,U,if_false];rw[hd];refine⟨fun _ _=>trivial,?_⟩;exact O _ _ _ _ (r2 (by cases x<;>cases c<;>simp_all)) (h.put h.sim (.refl _ _ _) g R (fun _=> .d (.tup .nil))) (.refl _ _ _)
  ·rename_i hx
   have Z:=h.env t;rw[hx]at Z;have hy:yielded ops a.tmps j=none:=by
    simp only[yielded,hj,bw];have k:=Z.toD;simp only[Act.eval,S]at k;cases T:a.tmps[t]? with
    |none=>rfl
    |some u=>
     rw[T]at k;simp only[a7]at k;cases k
     rfl
   have hw:Region.wanted o (yielded ops a.tmps)=false:=by simp[Region.wanted,A,hy]
   simp only[hw,U,if_false];rw[hd];refine⟨fun _ _=>trivial,?_⟩;exact O _ _ _ _ B (h.put h.sim (.refl _ _ _) g R (fun _=> .d (.tup .nil))) (.refl _ _ _)
  ·exact B.elim
 ·cases W
def Vq {n:Nat}(j:∀q,lo.fx=some q->∀o∈ops,o.dst≠some q.1){i:Nat}{o:Oper}{p:PO}(hi:ops[i]?=some o)(b:adX C.P n ops o p=true){s:St}{a:Act}(h:InS C X lo n s a w E){base:Nat}{K:St->Prop}{KP:DV->Mem->Prop}
  (m:dO C base p K KP s){next:Act->World->Prop}{Q:Exit->Act->World->Prop}
  (l:∀k e w' E',K k->InS C X lo n k e w' E'->From w s.mem E w' k.mem E'->next e w')
  (g:∀d M' e w' E' v,KP d M'->Sim C X w' M' E'->From w s.mem E w' M' E'->bF w' (away X M' E') v d->okD lo X e.defers w'->(∀q,lo.fx=some q->e.eval (.tmp q.1)=q.2)->Q (.panic [{v,recovered:=false}]) e w'):
  wpOpIn (RF ro) 0 C.P ops Q i next a w:=by
 simp only[adX,H,aE,decide_eq_true_eq]at b;refine abp j hi b.1 h (abu m ?_) l g
 rcases b.2 with h2|h2
 ·exact .inr (by rw[h2];trivial)
 ·refine .inl ?_
  unfold PO.plain
  split
  ·rename_i agg n f c
   rw[c]at h2;cases h2
  ·rename_i f c
   rw[c]at h2;cases h2
  ·rfl
def Qe {n:Nat}{ops:Array Oper}(e:∀q,lo.fx=some q->∀o∈ops,o.dst≠some q.1){base:Nat}{K:St->Prop}{KP:DV->Mem->Prop}{Q:Exit->Act->World->Prop}{w₀:World}{M₀:Mem}{E₀:Emb}
  (u:∀g b w' E',K g->InS C X lo n g b w' E'->From w₀ M₀ E₀ w' g.mem E'->Q .normal b w')
  (c:∀d M' b w' E' v,KP d M'->Sim C X w' M' E'->From w₀ M₀ E₀ w' M' E'->bF w' (away X M' E') v d->okD lo X b.defers w'->(∀q,lo.fx=some q->b.eval (.tmp q.1)=q.2)->Q (.panic [{v,recovered:=false}]) b w'):
  ∀(ps:List PO) (k:Nat),(∀(j:Nat) (p:PO),ps[j]?=some p->∃o,ops[k+j]?=some o/\adX C.P n ops o p=true)->∀(s:St) (a:Act) (w:World) (E:Emb),InS C X lo n s a w E->From w₀ M₀ E₀ w s.mem E->
   uq C base ps K KP s->wpOpsIn (RF ro) 0 C.P ops Q (bk k ps.length) a w
 | [],_,_,s,a,w,E,h,i,r=>by
  simp only[List.length_nil,List.range'_zero,wpOpsIn];exact u s a w E r h i
 |p::ps,k,f,s,a,w,E,h,i,r=>by
  simp only[bt,a6];rw[wpOpsIn_cons];obtain⟨o,A,B⟩:=f 0 p rfl;refine Vq e A B h r (fun g b w' E' t m l=> ?_) (fun d M' b w' E' v h1 h2 x y z=>c d M' b w' E' v h1 h2 (i.trans x) y z);refine Qe e u c ps (k+1) (fun j q D=> ?_) g b w' E' m (i.trans l) t;obtain⟨F,h1,h2⟩:=f (j+1) q (by simpa using D);exact⟨F,by rw[show k+1+j=k+(j+1) by omega];exact h1,h2⟩
def Iz (P:Program)(n:Nat)(ops:Array Oper):List Oper->List PO->Bool
 | [],[]=>true
 |o::os,p::a=>adX P n ops o p&&Iz P n ops os a
 | _,_=>false
def EW {P:Program}{n:Nat}{ops:Array Oper}:∀{os:List Oper} {ps:List PO},Iz P n ops os ps=true->os.length=ps.length/\∀(j:Nat) (p:PO),ps[j]?=some p->∃o,os[j]?=some o/\adX P n ops o p=true
 | [],[],_=>⟨rfl,fun j p h=>by simp at h⟩
 |o::os,p::ps,h=>by
  simp only[Iz,H]at h;obtain⟨h1,h2⟩:=EW h.2;refine⟨by simp[h1],fun j q a=> ?_⟩;cases j with
  |zero=>simp at a;subst a;exact⟨o,rfl,h.1⟩
  |succ j=>simpa using h2 j q (by simpa using a)
 | [],_::_,h=>by simp[Iz]at h
 | _::_,[],h=>by simp[Iz]at h
def Tv {n:Nat}(e:∀q,lo.fx=some q->∀o∈ops,o.dst≠some q.1){ps:List PO}(f:Iz C.P n ops ops.toList ps=true){base:Nat}{K:St->Prop}{KP:DV->Mem->Prop}{Q:Exit->Act->World->Prop}
  {s:St}{a:Act}{w₀:World}{M₀:Mem}{E₀:Emb}(h:InS C X lo n s a w E)(hf:From w₀ M₀ E₀ w s.mem E)(r:uq C base ps K KP s)
  (l:∀g b w' E',K g->InS C X lo n g b w' E'->From w₀ M₀ E₀ w' g.mem E'->Q .normal b w')
  (c:∀d M' b w' E' v,KP d M'->Sim C X w' M' E'->From w₀ M₀ E₀ w' M' E'->bF w' (away X M' E') v d->okD lo X b.defers w'->(∀q,lo.fx=some q->b.eval (.tmp q.1)=q.2)->Q (.panic [{v,recovered:=false}]) b w'):
  wpOpsIn (RF ro) 0 C.P ops Q (bq ops.size) a w:=by
 obtain⟨h1,h2⟩:=EW f;have:=Qe (ro:=ro) (C:=C) (X:=X) e l c ps 0 (fun j p m=>by
  obtain⟨o,i,k⟩:=h2 j p m;exact⟨o,by simpa using i,k⟩) s a w E h hf r
 rw[bl,show ops.size=ps.length by simpa using h1];exact this
end
section
variable {C:Ctx}{X:Nat->Prop}{w:World}{M:Mem}{E:Emb}{lo:Lo}
def gB {α:Type}{l:List α}{n i:Nat}{x:α}(h:(l.take n)[i]?=some x):i<n/\l[i]?=some x:=by
 rw[bp]at h
 split at h
 ·rename_i a;exact⟨a,h⟩
 ·cases h
def fM {α:Type}{l:List α}{n i:Nat}(h:i<n):(l.take n)[i]?=l[i]?:=by
 rw[bp,if_pos h]
def NS {n m:Nat}{b:Nat}(h:owned ⟨M.boxes.take n,M.fz.filter (fun b=>decide (b<n)),M.aB.take m⟩ ⟨E.bx.take n,E.ar.take m⟩ b):owned M E b:=by
 rcases h with⟨i,cs,h1,h2,a⟩|⟨k,A,o,e,h1,h2,a⟩
 ·exact .inl ⟨i,cs,(gB h1).2,fun c=>h2 (List.mem_filter.2 ⟨c,by simpa using(gB h1).1⟩),(gB a).2⟩
 ·exact .inr ⟨k,A,o,e,(gB h1).2,h2,(gB a).2⟩
def EK {n m:Nat}:∀b,away X ⟨M.boxes.take n,M.fz.filter (fun b=>decide (b<n)),M.aB.take m⟩ ⟨E.bx.take n,E.ar.take m⟩ b->away X M E b:=fun _ h=>h.imp id NS
mutual
def Rep.take {n m:Nat}{O O':Nat->Prop}(f:∀b,O' b->O b):∀{v:Value} {p:PV},p.upto n m=true->Rep w O M E v p->Rep w O' ⟨M.boxes.take n,M.fz.filter (fun b=>decide (b<n)),M.aB.take m⟩ ⟨E.bx.take n,E.ar.take m⟩ v p
 | _,_,_, .d h=> .d (h.weaken f)
 | _,_,a, .ptr j i k=>by
  simp only[PV.upto,decide_eq_true_eq]at a;exact .ptr (by simp only[fM a];exact j) (by simp only[fM a];exact i) k
 | _,_,a, .mref j i k=>by
  simp only[PV.upto,decide_eq_true_eq]at a;exact .mref (by simp only[fM a];exact j) (by simp only[fM a];exact i) k
 | _,_,a, .nM j i k=>by
  simp only[PV.upto,decide_eq_true_eq]at a;exact .nM (by simp only[fM a];exact j) (by simp only[fM a];exact i) k
 | _,_,a, .xO j i k=>by
  simp only[PV.upto,decide_eq_true_eq]at a;exact .xO (by simp only[fM a];exact j) (by simp only[fM a];exact i) k
 | _,_,a, .ji r h=>by
  simp only[PV.upto,decide_eq_true_eq]at a;refine .ji (by simp;omega) fun A e=> ?_
  simp only[fM a]at e⊢;obtain⟨l,o⟩:=h A e;refine⟨l,fun s=> ?_⟩;obtain⟨c,t,u,g⟩:=o s;refine⟨c,t,u,?_⟩;cases c with
  |none=>exact bF.weaken f g
  |some q=>exact g
 | _,_,a, .tsl r h=>by
  simp only[PV.upto,decide_eq_true_eq]at a;refine .tsl (by simp;omega) fun A e=> ?_
  simp only[fM a]at e⊢;obtain⟨l,o⟩:=h A e;refine⟨l,fun s=> ?_⟩;obtain⟨c,t,u,g⟩:=o s;refine⟨c,t,u,?_⟩;cases c with
  |none=>exact bF.weaken f g
  |some q=>exact g
 | _,_,a, .psl r h=>by
  simp only[PV.upto,decide_eq_true_eq]at a;refine .psl (by simp;omega) fun A e=> ?_
  simp only[fM a]at e⊢;obtain⟨l,o⟩:=h A e;refine⟨l,fun s=> ?_⟩;obtain⟨c,t,u,g⟩:=o s;refine⟨c,t,u,?_⟩;cases c with
  |none=>exact bF.weaken f g
  |some q=>exact g
 | _,_,_, .dead=> .dead
 | _,_,a, .func h1 h2=>by
  simp only[PV.upto,H]at a;exact .func (aK.QH f a.1 h1) (aK.QH f a.2 h2)
 | _,_,a, .agg h=>by
  simp only[PV.upto]at a;exact .agg (aK.QH f a h)
 | _,_,a, .tup h=>by
  simp only[PV.upto]at a;exact .tup (aK.QH f a h)
def aK.QH {n m:Nat}{O O':Nat->Prop}(c:∀b,O' b->O b):∀{v:List Value} {p:List PV},Jo n m p=true->aK w O M E v p->aK w O' ⟨M.boxes.take n,M.fz.filter (fun b=>decide (b<n)),M.aB.take m⟩ ⟨E.bx.take n,E.ar.take m⟩ v p
 | _,_,_, .nil=> .nil
 | _,_,a, .cons h t=>by
  simp only[Jo,H]at a;exact .cons (Rep.take c a.1 h) (aK.QH c a.2 t)
end
def Wj {n m:Nat}:∀{cs:List PV},(∀c∈cs,c.upto n m=true)->Jo n m cs=true
 | [],_=>rfl
 |c::cs,h=>by
  simp only[Jo,H];exact⟨h c (by simp),Wj fun d hd=>h d (by simp[hd])⟩
variable{k:Nat}{s:St}{a:Act}
def YI {nb na:Nat}{x:St}{w₀:World}{M₀:Mem}{E₀:Emb}(h:InS C X lo k s a w E)(hf:From w₀ M₀ E₀ w s.mem E)(hb:M₀.boxes.length<=nb)(Q:M₀.aB.length<=na)(hw:Weak nb na s x):
  ∃E',InS C X lo k x a w E'/\From w₀ M₀ E₀ w x.mem E':=by
 rcases hw with rfl|hw
 ·exact⟨E,h,hf⟩
 obtain⟨n,m,S,R,i,u,q⟩:=hw;obtain⟨H,I⟩:=x;simp only at i;subst i;refine⟨⟨E.bx.take n,E.ar.take m⟩,?_,?_⟩
 ·exact
   {size:=h.size,defers:=h.defers,fix:=h.fix
    env:=fun t=>by
     rcases u t with hd|⟨r,F⟩
     ·simp only at hd⊢;rw[hd];exact .dead
     ·simp only at r F⊢
      rw[r]at F⊢;exact(h.env t).take EK F
    sim:=
     {glob:=h.sim.glob,gG:=h.sim.gG,xlt:=h.sim.xlt
      fU:=by simp[h.sim.fU]
      bn:=by simp[h.sim.bn]
      box:=fun b cs f=>by
       obtain⟨h1,h2⟩:=gB f;obtain⟨d,q1,q2,q3⟩:=h.sim.box b cs h2;refine⟨d,by rw[fM h1];exact q1,q2,q3.move (fun _ B=>B) (fun b o hb B=>⟨B,fun h=>hb (EK b h)⟩) fun vs U D G=>G.QH EK (Wj fun c L=> ?_)⟩;exact q (some cs) (be f) c (by simpa using D c L)
      arr:=fun j A v=>by
       obtain⟨h1,h2⟩:=gB v;obtain⟨q1,q2,q3,G⟩:=h.sim.arr j A h2;refine⟨q1,q2,fun N=>by rw[fM h1];exact q3 N,fun d o e r=> ?_⟩;rw[fM h1]at r;obtain⟨r1,vs,T,r2,r3,r4,r5⟩:=G d o e r;exact⟨r1,vs,T,r2,r3,r4,r5.weaken EK⟩
      bb:=fun b J cs cs' d h1 h2 l p=>h.sim.bb b J cs cs' d (gB h1).2 (gB h2).2 (gB l).2 (gB p).2
      aa:=fun j O A y d o e P K h1 h2 l p=>h.sim.aa j O A y d o e P K (gB h1).2 (gB h2).2 (gB l).2 (gB p).2
      ba:=fun b j cs A d o e h1 h2 l p=>h.sim.ba b j cs A d o e (gB h1).2 (gB h2).2 (gB l).2 (gB p).2}}
 ·exact
   {os:=hf.os,tape:=hf.tape,output:=hf.output,size:=hf.size,keep:=hf.keep
    own:=fun b z=>hf.own b (NS z)
    fU:=by have:=hf.fU;simp only[bv];omega
    bx:=fun b cs f=>by
     have g:b<n:=Nat.lt_of_lt_of_le (ai.1 f).1 (by omega);obtain⟨h1,cs',h2,l⟩:=hf.bx b cs f;exact⟨by rw[fM g];exact h1,cs',by rw[fM g];exact h2,l⟩
    bn:=by have:=hf.bn;simp only[bv];omega
    ar:=fun j y M v=>by
     have g:j<m:=by omega
     rw[fM g]at v⊢;exact hf.ar j y M v}
def InS.frz {k:Nat}{s:St}{a:Act}{t:Nat}{d:DV}(h:InS C X lo k s a w E)(hd:datum s.mem (look s.env t)=some d):
  InS C X lo k ⟨(t, .d d)::s.env,s.mem.frz [look s.env t]⟩ a w E/\From w s.mem E w (s.mem.frz [look s.env t]) E:=by
 have b:=lC (M:=s.mem) (E:=E) [look s.env t] w;refine⟨{sim:=lY h.sim _,size:=h.size,defers:=h.defers,fix:=h.fix,env:=fun u=> ?_},b⟩;simp only[look]
 by_cases c:t=u
 ·subst c
  simp only[beq_self_eq_true,cond_true];exact .d (je h.sim (h.env t) hd (by simp))
 ·have:(t==u)=false:=by simp[c]
  simp only[this,cond_false];exact(h.env u).from b
def KD {k:Nat}{K:St->Prop}:∀{ts:List Nat} {s:St} {a:Act},qW ts K s->InS C X lo k s a w E->∃b,K b/\InS C X lo k b a w E/\From w s.mem E w b.mem E
 | [],s,a,h,c=>⟨s,h,c, .refl _ _ _⟩
 |t::ts,s,a,h,c=>by
  simp only[qW]at h
  split at h
  ·rename_i d hd
   obtain⟨h1,h2⟩:=c.frz hd;obtain⟨b,e,f,g⟩:=KD h h1;exact⟨b,e,f,h2.trans g⟩
  ·exact h.elim
def Iq {l:List (Nat×PV)}:∀{ks:List Nat} (t:Nat),look (gW l ks) t=look l t\/look (gW l ks) t= .dead
 | [],t=> .inr rfl
 |k::ks,t=>by
  simp only[gW,W,look]
  by_cases h:k=t
  ·subst h;simp
  ·have:(k==t)=false:=by simp[h]
   simp only[this,cond_false];exact Iq (ks:=ks) t
def InS.keep {ks:List Nat}(h:InS C X lo k s a w E):InS C X lo k ⟨gW s.env ks,s.mem⟩ a w E:={
 sim:=h.sim
 size:=h.size
 defers:=h.defers
 fix:=h.fix
 env:=fun t=>by
  rcases Iq (l:=s.env) (ks:=ks) t with b|b
  ·simp only[b];exact h.env t
  ·simp only[b];exact .dead}
def InS.reserve (n:Nat)(h:InS C X lo k s a w E):
  InS C X lo k ⟨s.env,{s.mem with boxes:=s.mem.boxes++av n none}⟩ a w {E with bx:=E.bx++av n 0}/\
  From w s.mem E w {s.mem with boxes:=s.mem.boxes++av n none} {E with bx:=E.bx++av n 0}:=by
 obtain⟨h1,h2⟩:=Lr h.sim n;exact⟨{sim:=h1,size:=h.size,defers:=h.defers,fix:=h.fix,env:=fun t=>(h.env t).from h2},h2⟩
end
inductive Kd where
 |p|rb|rr|rg|a (i:Nat)|wb (i:Nat)|wr|wo|w|x
 deriving DecidableEq
def kd (op:POp)(fl:Nat):Kd:=
 match op with
 | .mov| .pick| .build _ _| .bf| .bin _| .A8 _ _| .TP _| .un _| .conv _| .mkF _ _| .OT _ _ _| .UJ| .Nr _ _ _| .ext _| .Dj| .U5 _| .shf _| .uh _| .aj _| .Iw _ _| .tas _ _| .vM _| .FP _ _| .O7 _ _ _| .Ji _ _=> .p
 | .load _ _=>if fl=1 then .p else if fl=2 then .rb else if fl=3 then .rr else .rg
 | .FU _ _=>if fl=1 then .p else if fl=2 then .rb else .rg
 | .fld _=>if fl=1 then .p else if fl=2 then .p else if fl=3 then .rr else .rg
 | .bU _=>if fl=1 then .p else .rr
 | .len=>if fl=1 then .p else .rr
 | .dA _ _ _=>if fl=1 then .p else .x
 | .mkI _=>if fl=1 then .p else .x
 | .EC _ _ _ _=>if fl=1 then .p else .x
 | .alloc i _=> .a i
 | .box i=> .a i
 | .mkMap i=> .a i
 | .iG _=> .rg
 | .FD _ _ _=> .rg
 | .store _=>match fl with|3=> .wr|2=> .wo|i+4=> .wb i| _=> .w
 | .app _ _=> .wr
 | .VX _=> .rr
 | .copy _=> .wr
 | .lG _ _ _=> .wr
 | .VW _=> .rr
 | .QN _=> .wr
 | .nZ _=>if fl=1 then .wr else .x
 | .Hy _=> .w
 | _=> .x
def Kd.swap:Kd->Kd->Bool
 | .x,_=>false
 | _, .x=>false
 | .p,_=>true
 | _, .p=>true
 | .rb, .a _=>true
 | .rr, .a _=>true
 | .rg, .a _=>true
 | .a i, .a j=>decide (i≠j)
 | .a i, .wb j=>decide (i≠j)
 | .wb i, .a j=>decide (i≠j)
 | .wb i, .wb j=>decide (i≠j)
 | .a _, .wr=>true
 | .wr, .a _=>true
 | .wb _, .wr=>true
 | .wr, .wb _=>true
 | .rb, .wb _=>true
 | .wb _, .rb=>true
 | .rr, .wb _=>true
 | .wb _, .rr=>true
 | .rb, .wr=>true
 | .wr, .rb=>true
 | .rb, .rb=>true| .rb, .rr=>true| .rb, .rg=>true
 | .rr, .rb=>true| .rr, .rr=>true| .rr, .rg=>true
 | .rg, .rb=>true| .rg, .rr=>true| .rg, .rg=>true
 | .rr, .wo=>true
 | .wo, .rr=>true
 | _,_=>false
def Spec (base:Nat)(k:Kd)(R:Mem->PV->Mem->Prop):Prop:=
 match k with
 | .p=>∃V:PV->Prop,∀M v M',R M v M'↔V v/\M'=M
 | .rb=>∃V:Mem->PV->Prop,(∀M v M',R M v M'↔V M v/\M'=M)/\∀M M' v,(∀b,b<base->M.boxes[b]?=M'.boxes[b]?)->V M v->V M' v
 | .rr=>∃V:Mem->PV->Prop,(∀M v M',R M v M'↔V M v/\M'=M)/\∀M M' v,M.aB=M'.aB->V M v->V M' v
 | .rg=>∃V:Mem->PV->Prop,(∀M v M',R M v M'↔V M v/\M'=M)/\∀M M' v,(∀(b:Nat) (cs:List PV),M.boxes[b]?=some (some cs)->M'.boxes[b]?=some (some cs))->M.aB=M'.aB->V M v->V M' v
 | .a i=>∃(cs:List PV) (h:PV) (c:Prop),∀M v M',R M v M'↔c/\v=h/\M.boxes[base+i]?=some none/\M'={M with boxes:=M.boxes.set (base+i) (some cs)}
 | .wb i=>∃g:List PV->List PV->Prop,∀M v M',R M v M'↔∃cs f,M.boxes[base+i]?=some (some cs)/\base+i∉M.fz/\g cs f/\v= .dead/\M'={M with boxes:=M.boxes.set (base+i) (some f)}
 | .wr=>∃Q:List (Option Arr)->PV->List (Option Arr)->Prop,∀M v M',R M v M'↔∃d,Q M.aB v d/\M'={M with aB:=d}
 | .wo=>∃Q:List (Option (List PV))->List Nat->PV->List (Option (List PV))->Prop,∀M v M',R M v M'↔∃e,Q M.boxes M.fz v e/\M'={M with boxes:=e}
 | .w=>True
 | .x=>False
def EI (R1 R2:Mem->PV->Mem->Prop):Prop:=∀M d b e c,R1 M d b->R2 b e c->∃a,R2 M e a/\R1 a d c
section
variable {base:Nat}{R1 R2:Mem->PV->Mem->Prop}
def afv {k:Kd}(h1:Spec base .p R1)(_:Spec base k R2):EI R1 R2:=by
 obtain⟨V,a⟩:=h1;intro M e d f b r1 r2;obtain⟨c,rfl⟩:=(a _ _ _).1 r1;exact⟨b,r2,(a _ _ _).2 ⟨c,rfl⟩⟩
def afw (h2:Spec base .p R2):EI R1 R2:=by
 obtain⟨V,a⟩:=h2;intro M e c f d r1 r2;obtain⟨b,rfl⟩:=(a _ _ _).1 r2;exact⟨M,(a _ _ _).2 ⟨b,rfl⟩,r1⟩
def Gv (R:Mem->PV->Mem->Prop)(Ag:Mem->Mem->Prop):Prop:=∃V:Mem->PV->Prop,(∀M v M',R M v M'↔V M v/\M'=M)/\∀M M' v,Ag M M'->V M v->V M' v
variable{Ag:Mem->Mem->Prop}
def wQ {a:Mem->Mem->Prop}(h1:Gv R1 Ag)(h2:Gv R2 a):EI R1 R2:=by
 obtain⟨V,c,_⟩:=h1;obtain⟨f,b,_⟩:=h2;intro M i d j e r1 r2;obtain⟨g,rfl⟩:=(c _ _ _).1 r1;obtain⟨h,rfl⟩:=(b _ _ _).1 r2;exact⟨_,r2,r1⟩
def Bd (h1:Gv R1 Ag)(h2:∀M v M',R2 M v M'->Ag M M'):EI R1 R2:=by
 obtain⟨V,a,d⟩:=h1;intro M f e g b r1 r2;obtain⟨c,rfl⟩:=(a _ _ _).1 r1;exact⟨b,r2,(a _ _ _).2 ⟨d _ _ _ (h2 _ _ _ r2) c,rfl⟩⟩
def LP (h2:Gv R2 Ag)(h1:∀M v M',R1 M v M'->Ag M' M):EI R1 R2:=by
 obtain⟨V,a,c⟩:=h2;intro M f d g e r1 r2;obtain⟨b,rfl⟩:=(a _ _ _).1 r2;exact⟨M,(a _ _ _).2 ⟨c _ _ _ (h1 _ _ _ r1) b,rfl⟩,r1⟩
def rZ (h:Spec base .rb R1):Gv R1 fun M M'=>∀b,b<base->M.boxes[b]?=M'.boxes[b]?:=h
def sD (h:Spec base .rr R1):Gv R1 fun M M'=>M.aB=M'.aB:=h
def BR (h:Spec base .rg R1):Gv R1 fun M M'=>(∀(b:Nat) (cs:List PV),M.boxes[b]?=some (some cs)->M'.boxes[b]?=some (some cs))/\M.aB=M'.aB:=by
 obtain⟨V,h1,h2⟩:=h;exact⟨V,h1,fun M M' v h=>h2 M M' v h.1 h.2⟩
variable{i:Nat}
def yJ {l:List (Option (List PV))}{j:Nat}{x:Option (List PV)}(h:i≠j):(l.set i x)[j]?=l[j]?:=by rw[List.getElem?_set];simp[h]
def ajz (h:Spec base (.a i) R1):∀M v M',R1 M v M'->∀b,b<base->M.boxes[b]?=M'.boxes[b]?:=by
 obtain⟨cs,e,c,h⟩:=h;intro M v M' r b d;obtain⟨_,_,_,rfl⟩:=(h _ _ _).1 r;rw[yJ (by omega)]
def ace (h:Spec base (.a i) R1):∀M v M',R1 M v M'->M.aB=M'.aB:=by
 obtain⟨cs,b,c,h⟩:=h;intro M v M' r;obtain⟨_,_,_,rfl⟩:=(h _ _ _).1 r
 rfl
def ahM (h:Spec base (.a i) R1):∀M v M',R1 M v M'->∀(b:Nat) (cs:List PV),M.boxes[b]?=some (some cs)->M'.boxes[b]?=some (some cs):=by
 obtain⟨cs,j,c,h⟩:=h;intro M v M' r b f e;obtain⟨_,_,g,rfl⟩:=(h _ _ _).1 r
 by_cases d:base+i=b
 ·subst d;rw[g]at e;cases e
 ·rw[yJ d];exact e
def ae6 (h:Spec base (.wb i) R1):∀M v M',R1 M v M'->∀b,b<base->M.boxes[b]?=M'.boxes[b]?:=by
 obtain⟨g,h⟩:=h;intro M v M' r b c;obtain⟨cs,a,_,_,_,_,rfl⟩:=(h _ _ _).1 r;rw[yJ (by omega)]
def ZE (h:Spec base (.wb i) R1):∀M v M',R1 M v M'->M.aB=M'.aB:=by
 obtain⟨g,h⟩:=h;intro M v M' r;obtain⟨cs,a,_,_,_,_,rfl⟩:=(h _ _ _).1 r
 rfl
def Wu (h:Spec base .wr R1):∀M v M',R1 M v M'->∀b,b<base->M.boxes[b]?=M'.boxes[b]?:=by
 obtain⟨Q,h⟩:=h;intro M v M' r b _;obtain⟨a,_,rfl⟩:=(h _ _ _).1 r
 rfl
def ZG (h:Spec base .wo R1):∀M v M',R1 M v M'->M.aB=M'.aB:=by
 obtain⟨Q,h⟩:=h;intro M v M' r;obtain⟨a,_,rfl⟩:=(h _ _ _).1 r
 rfl
def set_comm {l:List (Option (List PV))}{i j:Nat}{x y:Option (List PV)}(h:i≠j):(l.set i x).set j y=(l.set j y).set i x:=List.set_comm _ _ h
def aaw {B C:Kd}(h:B.swap C=true)(h1:Spec base B R1)(h2:Spec base C R2):EI R1 R2:=by
 unfold Kd.swap at h
 split at h
 ·cases h
 ·cases h
 ·exact afv h1 h2
 ·exact afw h2
 ·exact Bd (rZ h1) (ajz h2)
 ·exact Bd (sD h1) (ace h2)
 ·exact Bd (BR h1) fun M v M' r=>⟨ahM h2 M v M' r,ace h2 M v M' r⟩
 ·rename_i i j
  simp only[decide_eq_true_eq]at h;obtain⟨cs,y,c,h1⟩:=h1;obtain⟨ds,E,d,h2⟩:=h2;intro M t o u p r1 r2;obtain⟨a,k,e,rfl⟩:=(h1 _ _ _).1 r1;obtain⟨f,q,n,rfl⟩:=(h2 _ _ _).1 r2;simp only[yJ (show base+i≠base+j by omega)]at n;refine⟨_,(h2 _ _ _).2 ⟨f,q,n,rfl⟩,(h1 _ _ _).2 ⟨a,k,?_,?_⟩⟩
  ·simp only[yJ (show base+j≠base+i by omega)];exact e
  ·simp only[set_comm (show base+i≠base+j by omega)]
 ·rename_i i j
  simp only[decide_eq_true_eq]at h;obtain⟨cs,y,c,h1⟩:=h1;obtain⟨g,h2⟩:=h2;intro M t o u p r1 r2;obtain⟨a,k,e,rfl⟩:=(h1 _ _ _).1 r1;obtain⟨ds,m,f,q,n,x,rfl⟩:=(h2 _ _ _).1 r2;simp only[yJ (show base+i≠base+j by omega)]at f;refine⟨_,(h2 _ _ _).2 ⟨ds,m,f,q,n,x,rfl⟩,(h1 _ _ _).2 ⟨a,k,?_,?_⟩⟩
  ·simp only[yJ (show base+j≠base+i by omega)];exact e
  ·simp only[set_comm (show base+i≠base+j by omega)]
 ·rename_i i j
  simp only[decide_eq_true_eq]at h;obtain⟨cs,y,c,h2⟩:=h2;obtain⟨g,h1⟩:=h1;intro M t o u p r1 r2;obtain⟨ds,m,f,q,n,x,rfl⟩:=(h1 _ _ _).1 r1;obtain⟨a,k,e,rfl⟩:=(h2 _ _ _).1 r2;simp only[yJ (show base+i≠base+j by omega)]at e;refine⟨_,(h2 _ _ _).2 ⟨a,k,e,rfl⟩,(h1 _ _ _).2 ⟨ds,m,?_,q,n,x,?_⟩⟩
  ·simp only[yJ (show base+j≠base+i by omega)];exact f
  ·simp only[set_comm (show base+i≠base+j by omega)]
 ·rename_i i j
  simp only[decide_eq_true_eq]at h;obtain⟨D,h2⟩:=h2;obtain⟨g,h1⟩:=h1;intro M t o u p r1 r2;obtain⟨ds,m,f,q,n,x,rfl⟩:=(h1 _ _ _).1 r1;obtain⟨es,z,a,k,e,w,rfl⟩:=(h2 _ _ _).1 r2;simp only[yJ (show base+i≠base+j by omega)]at a;refine⟨_,(h2 _ _ _).2 ⟨es,z,a,k,e,w,rfl⟩,(h1 _ _ _).2 ⟨ds,m,?_,q,n,x,?_⟩⟩
  ·simp only[yJ (show base+j≠base+i by omega)];exact f
  ·simp only[set_comm (show base+i≠base+j by omega)]
 ·obtain⟨cs,y,c,h1⟩:=h1
  obtain⟨Q,h2⟩:=h2;intro M t o u p r1 r2;obtain⟨a,k,e,rfl⟩:=(h1 _ _ _).1 r1;obtain⟨l,f,rfl⟩:=(h2 _ _ _).1 r2;exact⟨_,(h2 _ _ _).2 ⟨l,f,rfl⟩,(h1 _ _ _).2 ⟨a,k,e,rfl⟩⟩
 ·obtain⟨cs,y,c,h2⟩:=h2
  obtain⟨Q,h1⟩:=h1;intro M t o u p r1 r2;obtain⟨l,f,rfl⟩:=(h1 _ _ _).1 r1;obtain⟨a,k,e,rfl⟩:=(h2 _ _ _).1 r2;exact⟨_,(h2 _ _ _).2 ⟨a,k,e,rfl⟩,(h1 _ _ _).2 ⟨l,f,rfl⟩⟩
 ·obtain⟨g,h1⟩:=h1
  obtain⟨Q,h2⟩:=h2;intro M t o u p r1 r2;obtain⟨cs,s,a,k,e,w,rfl⟩:=(h1 _ _ _).1 r1;obtain⟨l,f,rfl⟩:=(h2 _ _ _).1 r2;exact⟨_,(h2 _ _ _).2 ⟨l,f,rfl⟩,(h1 _ _ _).2 ⟨cs,s,a,k,e,w,rfl⟩⟩
 ·obtain⟨g,h2⟩:=h2
  obtain⟨Q,h1⟩:=h1;intro M t o u p r1 r2;obtain⟨l,f,rfl⟩:=(h1 _ _ _).1 r1;obtain⟨cs,s,a,k,e,w,rfl⟩:=(h2 _ _ _).1 r2;exact⟨_,(h2 _ _ _).2 ⟨cs,s,a,k,e,w,rfl⟩,(h1 _ _ _).2 ⟨l,f,rfl⟩⟩
 ·exact Bd (rZ h1) (ae6 h2)
 ·exact LP (rZ h2) fun M v M' r b A=>(ae6 h1 M v M' r b A).symm
 ·exact Bd (sD h1) (ZE h2)
 ·exact LP (sD h2) fun M v M' r=>(ZE h1 M v M' r).symm
 ·exact Bd (rZ h1) (Wu h2)
 ·exact LP (rZ h2) fun M v M' r b A=>(Wu h1 M v M' r b A).symm
 ·exact wQ (rZ h1) (rZ h2)
 ·exact wQ (rZ h1) (sD h2)
 ·exact wQ (rZ h1) (BR h2)
 ·exact wQ (sD h1) (rZ h2)
 ·exact wQ (sD h1) (sD h2)
 ·exact wQ (sD h1) (BR h2)
 ·exact wQ (BR h1) (rZ h2)
 ·exact wQ (BR h1) (sD h2)
 ·exact wQ (BR h1) (BR h2)
 ·exact Bd (sD h1) (ZG h2)
 ·exact LP (sD h2) fun M v M' r=>(ZG h1 M v M' r).symm
 ·cases h
end
section
variable {C:Ctx}{base:Nat}
def Dn (C:Ctx)(base:Nat)(op:POp)(args:List PV)(R:Mem->PV->Mem->Prop):Prop:=∀M K KP,ak C base op args M K KP↔∃v M',R M v M'/\K v M'
variable{op:POp}{args:List PV}
def agH {V:PV->Prop}(h:∀M K KP,ak C base op args M K KP↔∃v,V v/\K v M):∃R,Spec base .p R/\Dn C base op args R:=by
 refine⟨fun M v M'=>V v/\M'=M,⟨V,fun _ _ _=>Y⟩,fun M K KP=>(h M K KP).trans ?_⟩;constructor
 ·rintro⟨v,h1,h2⟩;exact⟨v,M,⟨h1,rfl⟩,h2⟩
 ·rintro⟨v,M',⟨h1,rfl⟩,h2⟩;exact⟨v,h1,h2⟩
def wW {V:Mem->PV->Prop}(h:∀M K KP,ak C base op args M K KP↔∃v,V M v/\K v M):Dn C base op args (fun M v M'=>V M v/\M'=M):=by
 intro M K KP;refine(h M K KP).trans ?_;constructor
 ·rintro⟨v,h1,h2⟩;exact⟨v,M,⟨h1,rfl⟩,h2⟩
 ·rintro⟨v,M',⟨h1,rfl⟩,h2⟩;exact⟨v,h1,h2⟩
def WE {op:BinOp}{k:IntKind}{a b:Int}{K:DV->Prop}:lM op k a b K↔∃d,lM op k a b (fun u=>d=u)/\K d:=by
 cases op<;>simp[lM,and_assoc]
def WH {op:BinOp}{a b:ByteArray}{K:DV->Prop}:zA op a b K↔∃d,zA op a b (fun u=>d=u)/\K d:=by
 cases op<;>simp[zA,and_assoc]
variable{x:PV}
def Js {op:BinOp}{y:PV}{K:DV->Prop}:J6 op x y K↔∃d,J6 op x y (fun u=>d=u)/\K d:=by
 unfold J6
 split
 ·rw[WE]
  constructor
  ·rintro⟨h,d,h1,h2⟩;exact⟨d,⟨h,h1⟩,h2⟩
  ·rintro⟨d,⟨h,h1⟩,h2⟩;exact⟨h,d,h1,h2⟩
 ·exact WH
 ·simp
def OH {op:UnOp}{K:DV->Prop}:Wi op x K↔∃d,Wi op x (fun u=>d=u)/\K d:=by
 unfold Wi
 split<;>simp
def jV:∀{args:List PV},args.all PV.isD=true->∃ds:List DV,args=ds.map .d
 | [],_=>⟨[],rfl⟩
 | .d x::l,h=>by
  simp only[bL,H]at h;obtain⟨ds,rfl⟩:=jV h.2;exact⟨x::ds,rfl⟩
 | .ptr _ _::_,h| .ji _ _ _ _::_,h| .tsl _ _ _::_,h| .func _ _ _::_,h| .agg _::_,h| .tup _::_,h| .dead::_,h=>by simp[PV.isD]at h
def Ui {M:Mem}:∀{ds:List DV},cZ M (ds.map .d)=some ds
 | []=>rfl
 |d::ds=>by simp only[W,cZ,datum,Ui]
variable{M:Mem}
def zT {ds:List DV}:M.frz (ds.map .d)=M:=by
 have h1:∀ds:List DV,(ds.map PV.d).flatMap (kG M)=[]:=by
  intro ds;induction ds with
  |nil=>rfl
  |cons d ds a=>simp[kG]
 have h2:∀ds:List DV,(ds.map PV.d).flatMap (kF M)=[]:=by
  intro ds;induction ds with
  |nil=>rfl
  |cons d ds a=>simp[kF]
 simp only[Mem.frz,h1,h2,FB,List.foldl_nil,List.nil_append]
variable{M':Mem}
def Pg {b:Nat}(h:M.boxes[b]?=M'.boxes[b]?):M.box b=M'.box b:=by simp[Mem.box,h]
def qh (h:M.aB=M'.aB)(k ver:Nat):M.row k ver=M'.row k ver:=by simp[Mem.row,h]
variable{agg:Bool}
def jo {n:Nat}{K:PV->Prop}:bP agg n x M K↔∃v,bP agg n x M (fun u=>v=u)/\K v:=by
 unfold bP
 repeat' split
 all_goals simp[and_assoc]
def abd {n:Nat}{K:PV->Prop}:ni agg n x M K↔∃v,ni agg n x M (fun u=>v=u)/\K v:=by
 unfold ni
 repeat' split
 all_goals simp[and_assoc]
variable{off:Nat}
def afT {K:PV->Prop}:kW off x M K↔∃v,kW off x M (fun u=>v=u)/\K v:=by
 unfold kW
 repeat' split
 all_goals simp[and_assoc]
def ady {sz:Nat}{i:PV}{K:PV->Prop}:rW sz x i M K↔∃v,rW sz x i M (fun u=>v=u)/\K v:=by
 unfold rW
 repeat' split
 all_goals simp[and_assoc]
def RJ {K:Int->Prop}:qg x M K↔∃v,qg x M (fun u=>v=u)/\K v:=by
 unfold qg
 repeat' split
 all_goals simp
def P5 {n:Nat}{k ver i:Nat}(h:M.aB=M'.aB){K:PV->Prop}(hh:bP agg n (.ji k ver i off) M K):bP agg n (.ji k ver i off) M' K:=by
 simp only[bP,qh h]at hh⊢;exact hh
def abf {n:Nat}(hb:∀(b:Nat) (cs:List PV),M.boxes[b]?=some (some cs)->M'.boxes[b]?=some (some cs))(h:M.aB=M'.aB){K:PV->Prop}(hh:bP agg n x M K):bP agg n x M' K:=by
 cases x with
 |ptr b off=>
  simp only[bP]at hh⊢
  split at hh
  ·rename_i cs a
   have:M'.box b=some cs:=by simp[Mem.box,hb _ _ (lN a)]
   rw[this];exact hh
  ·exact hh.elim
 |ji k ver i off=>exact P5 h hh
 |d y=>cases y<;>exact hh
 | _=>exact hh
def X8 {n:Nat}(hb:∀(b:Nat) (cs:List PV),M.boxes[b]?=some (some cs)->M'.boxes[b]?=some (some cs)){K:PV->Prop}(hh:ni agg n x M K):ni agg n x M' K:=by
 cases x with
 |ptr b off=>
  simp only[ni]at hh⊢
  split at hh
  ·rename_i cs a
   have:M'.box b=some cs:=by simp[Mem.box,hb _ _ (lN a)]
   rw[this];exact hh
  ·exact hh.elim
 |d y=>cases y<;>exact hh
 | _=>exact hh
variable{f:Bool}{l:List PV}{K:Option Int->List PV->Prop}
def nI {b:Option Int->List PV->Prop}(hk:∀a l,K a l->b a l)(h:dJ f l K):dJ f l b:=by
 unfold dJ at h⊢
 split at h
 ·exact hk _ _ h
 ·exact hk _ _ h
 ·exact h.elim
def JJ (h:dJ f l K):∃a c,dJ f l (fun d b=>d=a/\b=c)/\K a c:=by
 unfold dJ at h⊢
 split at h
 ·exact⟨_,_,⟨rfl,rfl⟩,h⟩
 ·exact⟨_,_,⟨rfl,rfl⟩,h⟩
 ·exact h.elim
variable{Q:Option Int->Option Int->Option Int->Prop}
def EL {lo hi mx:Bool}(h:dJ lo l fun a l=>dJ hi l fun b l=>dJ mx l fun m l=>l=[]/\Q a b m):
  ∃a b m,(dJ lo l fun c l=>dJ hi l fun b' l=>dJ mx l fun j l=>l=[]/\c=a/\b'=b/\j=m)/\Q a b m:=by
 obtain⟨a,l1,h1,h2⟩:=JJ h;obtain⟨b,l2,d,e⟩:=JJ h2;obtain⟨m,k,f,g,i⟩:=JJ e;refine⟨a,b,m,nI ?_ h1,i⟩;rintro _ _ ⟨rfl,rfl⟩;refine nI ?_ d;rintro _ _ ⟨rfl,rfl⟩;refine nI ?_ f;rintro _ _ ⟨rfl,rfl⟩;exact⟨g,rfl,rfl,rfl⟩
def EM {lo hi mx:Bool}{a b m:Option Int}(h:dJ lo l fun c l=>dJ hi l fun b' l=>dJ mx l fun e l=>l=[]/\c=a/\b'=b/\e=m)(d:Q a b m):
  dJ lo l fun a l=>dJ hi l fun b l=>dJ mx l fun m l=>l=[]/\Q a b m:=
 nI (fun _ _=>nI fun _ _=>nI fun _ _ hh=>⟨hh.1,by rw[hh.2.1,hh.2.2.1,hh.2.2.2];exact d⟩) h
def Kw (hb:∀(b:Nat) (cs:List PV),M.boxes[b]?=some (some cs)->M'.boxes[b]?=some (some cs))(a:M.aB=M'.aB){p:PV}{d:DV}(h:dS M p=some d):dS M' p=some d:=by
 cases p with
 |tsl k ver skip=>simp only[dS]at h⊢;rw[<-qh a];exact h
 |mref b=>
  simp only[dS]at h⊢
  split at h
  ·rename_i l c
   have:M'.box b=some [.gI l]:=by simp[Mem.box,hb _ _ (lN c)]
   rw[this];exact h
  ·cases h
 | _=>exact h
def H8 {M M':Mem}(hb:∀(b:Nat) (cs:List PV),M.boxes[b]?=some (some cs)->M'.boxes[b]?=some (some cs))(a:M.aB=M'.aB):∀{ps:List PV} {ds:List DV},bW M ps=some ds->bW M' ps=some ds
 | [],_,h=>h
 |p::ps,ds,h=>by
  simp only[bW]at h⊢
  split at h
  ·rename_i x xs h1 h2;rw[Kw hb a h1,H8 hb a h2];exact h
  ·cases h
def Xk (hb:∀(b:Nat) (cs:List PV),M.boxes[b]?=some (some cs)->M'.boxes[b]?=some (some cs))(e:M.aB=M'.aB){p:PV}{d:DV}(h:datum M p=some d):datum M' p=some d:=by
 have a:=fun{i ds}=>H8 (ps:=i) (ds:=ds) hb e
 cases p with
 |tsl k ver skip=>simp only[datum]at h⊢;rw[<-qh e];exact h
 |mref b=>exact Kw (p:= .mref b) hb e h
 |ptr b off=>
  simp only[datum]at h⊢
  split at h
  ·rename_i cs g
   have:M'.box b=some cs:=by simp[Mem.box,hb _ _ (lN g)]
   rw[this];simp only[ae]at h⊢;obtain⟨x,h1,h2⟩:=h;exact⟨x,a h1,h2⟩
  ·cases h
 |func fn f c=>
  simp only[datum]at h⊢
  split at h
  ·rename_i x y h1 h2;rw[a h1,a h2];exact h
  ·cases h
 |agg cs=>simp only[datum,ae]at h⊢;obtain⟨x,h1,h2⟩:=h;exact⟨x,a h1,h2⟩
 |tup cs=>simp only[datum,ae]at h⊢;obtain⟨x,h1,h2⟩:=h;exact⟨x,a h1,h2⟩
 | _=>exact h
def Kz {M M':Mem}(hb:∀(b:Nat) (cs:List PV),M.boxes[b]?=some (some cs)->M'.boxes[b]?=some (some cs))(a:M.aB=M'.aB):∀{ps:List PV} {ds:List DV},cZ M ps=some ds->cZ M' ps=some ds
 | [],_,h=>h
 |p::ps,ds,h=>by
  simp only[cZ]at h⊢
  split at h
  ·rename_i x xs h1 h2;rw[Xk hb a h1,Kz hb a h2];exact h
  ·cases h
variable{fl:Nat}
def ajk (h:kd op fl= .p)(hf:vK base fl args):∃V:PV->Prop,∀M K KP,ak C base op args M K KP↔∃v,V v/\K v M:=by
 have one:∀{p:Prop} [Decidable p] {x y z:Kd},(if p then x else y)=z->y≠z->p:=by
  intro p _ x y z h P;by_cases H:p
  ·exact H
  ·rw[if_neg H]at h;exact absurd h P
 cases op with
 |mov=>refine⟨fun v=>ak C base .mov args bg (fun u _=>v=u) (fun _ _=>False),fun M K KP=> ?_⟩;simp only[ak];split<;>simp
 |pick=>refine⟨fun v=>ak C base .pick args bg (fun u _=>v=u) (fun _ _=>False),fun M K KP=> ?_⟩;simp only[ak];split<;>simp
 |build zs L=>refine⟨fun v=>ak C base (.build zs L) args bg (fun u _=>v=u) (fun _ _=>False),fun M K KP=> ?_⟩;simp only[ak];cases jm (zs.map .d) L args<;>simp
 |bf=>refine⟨fun v=>ak C base .bf args bg (fun u _=>v=u) (fun _ _=>False),fun M K KP=> ?_⟩;simp only[ak];split<;>simp
 |bin op=>
  refine⟨fun v=>ak C base (.bin op) args bg (fun u _=>v=u) (fun _ _=>False),fun M K KP=> ?_⟩;simp only[ak]
  split
  ·rw[Js]
   constructor
   ·rintro⟨d,h1,h2⟩;exact⟨.d d,Js.2 ⟨d,h1,rfl⟩,h2⟩
   ·rintro⟨v,h1,h2⟩
    obtain⟨d,e,rfl⟩:=Js.1 h1;exact⟨d,e,h2⟩
  ·simp
 |A8 neq A=>
  refine⟨fun v=>ak C base (.A8 neq A) args bg (fun u _=>v=u) (fun _ _=>False),fun M K KP=> ?_⟩;simp only[ak]
  split
  ·rename_i a b;cases bG A a b<;>simp
  ·simp
 |shf op=>refine⟨fun v=>ak C base (.shf op) args bg (fun u _=>v=u) (fun _ _=>False),fun M K KP=> ?_⟩;simp only[ak];split<;>(try simp);cases op<;>simp[and_assoc]
 |TP neq=>refine⟨fun v=>ak C base (.TP neq) args bg (fun u _=>v=u) (fun _ _=>False),fun M K KP=> ?_⟩;simp only[ak];split<;>simp
 |un op=>
  refine⟨fun v=>ak C base (.un op) args bg (fun u _=>v=u) (fun _ _=>False),fun M K KP=> ?_⟩;simp only[ak]
  split
  ·rw[OH]
   constructor
   ·rintro⟨d,h1,h2⟩;exact⟨.d d,OH.2 ⟨d,h1,rfl⟩,h2⟩
   ·rintro⟨v,h1,h2⟩
    obtain⟨d,e,rfl⟩:=OH.1 h1;exact⟨d,e,h2⟩
  ·simp
 |conv k=>refine⟨fun v=>ak C base (.conv k) args bg (fun u _=>v=u) (fun _ _=>False),fun M K KP=> ?_⟩;simp only[ak];split<;>simp
 |mkF fn R=>refine⟨fun v=>ak C base (.mkF fn R) args bg (fun u _=>v=u) (fun _ _=>False),fun M K KP=> ?_⟩;simp only[ak];cases gU args<;>simp
 |OT agg off n=>refine⟨fun v=>ak C base (.OT agg off n) args bg (fun u _=>v=u) (fun _ _=>False),fun M K KP=> ?_⟩;simp only[ak];split<;>simp[and_assoc]
 |UJ=>refine⟨fun v=>ak C base .UJ args bg (fun u _=>v=u) (fun _ _=>False),fun M K KP=> ?_⟩;simp only[ak];split<;>simp[and_assoc]
 |Nr agg sz len=>refine⟨fun v=>ak C base (.Nr agg sz len) args bg (fun u _=>v=u) (fun _ _=>False),fun M K KP=> ?_⟩;simp only[ak];split<;>simp[and_assoc]
 |ext i=>
  refine⟨fun v=>ak C base (.ext i) args bg (fun u _=>v=u) (fun _ _=>False),fun M K KP=> ?_⟩;simp only[ak]
  split
  ·rename_i G;cases G[i]?<;>simp
  ·rename_i G;cases G[i]?<;>simp
  ·simp
 |Dj=>refine⟨fun v=>ak C base .Dj args bg (fun u _=>v=u) (fun _ _=>False),fun M K KP=> ?_⟩;simp only[ak];split<;>simp
 |U5 n=>refine⟨fun v=>ak C base (.U5 n) args bg (fun u _=>v=u) (fun _ _=>False),fun M K KP=> ?_⟩;simp only[ak];simp
 |uh F=>refine⟨fun v=>ak C base (.uh F) args bg (fun u _=>v=u) (fun _ _=>False),fun M K KP=> ?_⟩;simp only[ak];split<;>simp
 |Iw A z=>
  refine⟨fun v=>ak C base (.Iw A z) args bg (fun u _=>v=u) (fun _ _=>False),fun M K KP=> ?_⟩;simp only[ak]
  split
  ·rename_i l k
   cases bG A k k with
   |none=>simp
   |some b=>cases b<;>cases xU A l k<;>simp
  ·simp
 |Ji lo D=>
  refine⟨fun v=>ak C base (.Ji lo D) args bg (fun u _=>v=u) (fun _ _=>False),fun M K KP=> ?_⟩;simp only[ak]
  rcases args with _|⟨x,l⟩
  ·simp[xg]
  ·by_cases I:∃s,x= .d (.str s)
   ·obtain⟨s,rfl⟩:=I
    simp only[xg];constructor
    ·intro hh
     obtain⟨a,b,m,e,g,j,q,r,B⟩:=EL hh;exact⟨_,EM e ⟨g,j,q,r,rfl⟩,B⟩
    ·rintro⟨v,h1,h2⟩
     obtain⟨a,b,m,e,g,j,q,r,rfl⟩:=EL h1;exact EM e ⟨g,j,q,r,h2⟩
   ·have:∀Q:DV->Prop,¬xg lo D (x::l) Q:=by
     intro Q hh;unfold xg at hh
     split at hh
     ·rename_i s S O;cases O;exact I ⟨s,rfl⟩
     ·exact hh
    constructor
    ·intro hh;exact(this _ hh).elim
    ·rintro⟨v,hh,_⟩;exact(this _ hh).elim
 |vM neq=>refine⟨fun v=>ak C base (.vM neq) args bg (fun u _=>v=u) (fun _ _=>False),fun M K KP=> ?_⟩;simp only[ak];split<;>simp
 |FP sz len=>refine⟨fun v=>ak C base (.FP sz len) args bg (fun u _=>v=u) (fun _ _=>False),fun M K KP=> ?_⟩;simp only[ak];split<;>simp[and_assoc]
 |O7 agg sz len=>refine⟨fun v=>ak C base (.O7 agg sz len) args bg (fun u _=>v=u) (fun _ _=>False),fun M K KP=> ?_⟩;simp only[ak];split<;>simp[and_assoc]
 |tas t z=>refine⟨fun v=>ak C base (.tas t z) args bg (fun u _=>v=u) (fun _ _=>False),fun M K KP=> ?_⟩;simp only[ak];split<;>simp
 |load agg n=>
  simp only[kd]at h;have c:fl=1:=by
   refine one h ?_;split
   ·decide
   ·split<;>decide
  subst c;obtain⟨ds,rfl⟩:=jV (args:=args) hf;refine⟨fun v=>ak C base (.load agg n) (ds.map .d) bg (fun u _=>v=u) (fun _ _=>False),fun M K KP=> ?_⟩;simp only[ak]
  rcases ds with _|⟨x,_|⟨y,l⟩⟩
  ·simp
  ·simp only[W,ab];cases x<;>simp[bP,and_assoc]
  ·simp
 |FU agg n=>
  simp only[kd]at h;have c:fl=1:=by
   refine one h ?_;split<;>decide
  subst c;obtain⟨ds,rfl⟩:=jV (args:=args) hf;refine⟨fun v=>ak C base (.FU agg n) (ds.map .d) bg (fun u _=>v=u) (fun _ _=>False),fun M K KP=> ?_⟩;simp only[ak]
  rcases ds with _|⟨x,_|⟨y,l⟩⟩
  ·simp
  ·simp only[W,ab];cases x<;>simp[ni,and_assoc]
  ·simp
 |fld off=>
  have c:fl=1\/fl=2:=by
   simp only[kd]at h
   by_cases h1:fl=1
   ·exact .inl h1
   ·by_cases h2:fl=2
    ·exact .inr h2
    ·rw[if_neg h1,if_neg h2]at h
     split at h<;>cases h
  have w:(∃ds:List DV,args=ds.map .d)\/(∃b o t,args= .ptr b o::t)\/(∃x t,args= .d x::t):=by
   rcases c with rfl|rfl
   ·exact .inl (jV hf)
   ·simp only[vK]at hf
    split at hf
    ·exact .inr (.inl ⟨_,_,_,rfl⟩)
    ·exact .inr (.inr ⟨_,_,rfl⟩)
    ·exact hf.elim
  refine⟨fun v=>ak C base (.fld off) args bg (fun u _=>v=u) (fun _ _=>False),fun M K KP=> ?_⟩
  rcases w with⟨ds,rfl⟩|⟨b,o,t,rfl⟩|⟨x,t,rfl⟩
  ·simp only[ak]
   rcases ds with _|⟨x,_|⟨y,l⟩⟩
   ·simp
   ·simp only[W,ab];cases x<;>simp[kW,and_assoc]
   ·simp
  ·simp only[ak]
   cases t<;>simp[kW]
  ·simp only[ak]
   cases t<;>cases x<;>simp[kW,and_assoc]
 |bU sz=>
  simp only[kd]at h;have c:fl=1:=one h (by decide);subst c;obtain⟨ds,rfl⟩:=jV (args:=args) hf;refine⟨fun v=>ak C base (.bU sz) (ds.map .d) bg (fun u _=>v=u) (fun _ _=>False),fun M K KP=> ?_⟩;simp only[ak]
  rcases ds with _|⟨x,_|⟨y,_|⟨z,l⟩⟩⟩
  ·simp
  ·simp
  ·simp only[W,ab];cases x<;>cases y<;>simp[rW,and_assoc]
  ·simp
 |len=>
  simp only[kd]at h;have c:fl=1:=one h (by decide);subst c;obtain⟨ds,rfl⟩:=jV (args:=args) hf;refine⟨fun v=>ak C base .len (ds.map .d) bg (fun u _=>v=u) (fun _ _=>False),fun M K KP=> ?_⟩;simp only[ak]
  rcases ds with _|⟨x,_|⟨y,l⟩⟩
  ·simp
  ·simp only[W,ab];cases x<;>simp[qg]
  ·simp
 |dA sz zs J=>
  simp only[kd]at h;have c:fl=1:=one h (by decide);subst c;obtain⟨ds,rfl⟩:=jV (args:=args) hf;refine⟨fun v=>ak C base (.dA sz zs J) (ds.map .d) bg (fun u _=>v=u) (fun _ _=>False),fun M K KP=> ?_⟩;simp only[ak,Ui,zT];cases qy sz zs J (ds.map DV.strip)<;>simp
 |mkI t=>
  simp only[kd]at h;have c:fl=1:=one h (by decide);subst c;obtain⟨ds,rfl⟩:=jV (args:=args) hf;refine⟨fun v=>ak C base (.mkI t) (ds.map .d) bg (fun u _=>v=u) (fun _ _=>False),fun M K KP=> ?_⟩;simp only[ak]
  rcases ds with _|⟨x,_|⟨y,l⟩⟩
  ·simp
  ·have:=fun M:Mem=>zT (M:=M) (ds:=[x])
   simp only[W,ab]at this;simp only[W,ab,datum,this];simp
  ·simp
 |EC sz lo D F=>
  simp only[kd]at h;have c:fl=1:=one h (by decide);subst c;obtain⟨ds,rfl⟩:=jV (args:=args) hf;refine⟨fun v=>ak C base (.EC sz lo D F) (ds.map .d) bg (fun u _=>v=u) (fun _ _=>False),fun M K KP=> ?_⟩;simp only[ak]
  rcases ds with _|⟨x,l⟩
  ·simp[wZ]
  ·simp only[W]
   cases x with
   |slice ex xs=>
    simp only[wZ];constructor
    ·intro hh
     obtain⟨a,b,m,e,g,j,q,r,B,N⟩:=EL hh;exact⟨_,EM e ⟨g,j,q,r,B,rfl⟩,N⟩
    ·rintro⟨v,h1,h2⟩
     obtain⟨a,b,m,e,g,j,q,r,B,rfl⟩:=EL h1;exact EM e ⟨g,j,q,r,B,h2⟩
   | _=>simp[wZ]
 |aj f=>
  refine⟨fun v=>ak C base (.aj f) args bg (fun u _=>v=u) (fun _ _=>False),fun M K KP=> ?_⟩;simp only[ak,Oo];constructor
  ·rintro⟨ds,E,x,h1,h2⟩;exact⟨.d x,⟨ds,E,x,h1,rfl⟩,h2⟩
  ·rintro⟨v,⟨ds,E,x,h1,rfl⟩,h2⟩;exact⟨ds,E,x,h1,h2⟩
 |store n=>
  simp only[kd]at h
  split at h<;>cases h
 |nZ f=>
  simp only[kd]at h
  split at h<;>cases h
 | _=>simp[kd]at h
def L8 (h:kd op fl≠ .x)(hf:vK base fl args):∃R,Spec base (kd op fl) R/\Dn C base op args R:=by
 by_cases O:kd op fl= .p
 ·rw[O]
  obtain⟨V,hV⟩:=ajk (C:=C) O hf;exact agH hV
 ·cases op with
  |load agg n=>
   have P:Dn C base (.load agg n) args (fun M v M'=>(ak C base (.load agg n) args M (fun u _=>v=u) (fun _ _=>False))/\M'=M):=wW fun M K KP=>by
    simp only[ak]
    split
    ·exact jo
    ·simp
   refine⟨_,?_,P⟩;simp only[kd]at O⊢;have h1:fl≠1:=fun e=>O (by simp[e])
   rw[if_neg h1]
   by_cases h2:fl=2
   ·rw[if_pos h2]
    subst h2;refine⟨_,fun _ _ _=>Y,fun M M' v D c=> ?_⟩;simp only[ak]at c⊢;simp only[vK]at hf
    split at hf
    ·rename_i b o t
     cases t with
     |nil=>simp only[bP]at c⊢;rw[<-Pg (D b hf)];exact c
     |cons=>exact c
    ·rename_i x t
     cases t with
     |nil=>cases x<;>exact c
     |cons=>exact c
    ·exact hf.elim
   ·rw[if_neg h2]
    by_cases g:fl=3
    ·rw[if_pos g]
     subst g;refine⟨_,fun _ _ _=>Y,fun M M' v D c=> ?_⟩;simp only[ak]at c⊢;simp only[vK]at hf
     split at hf
     ·rename_i t
      cases t with
      |nil=>exact P5 D c
      |cons=>exact c
     ·exact hf.elim
    ·rw[if_neg g]
     refine⟨_,fun _ _ _=>Y,fun M M' v hb Z c=> ?_⟩;simp only[ak]at c⊢
     split at c
     ·exact abf hb Z c
     ·exact c.elim
  |FU agg n=>
   have P:Dn C base (.FU agg n) args (fun M v M'=>(ak C base (.FU agg n) args M (fun u _=>v=u) (fun _ _=>False))/\M'=M):=wW fun M K KP=>by
    simp only[ak]
    split
    ·exact abd
    ·simp
   refine⟨_,?_,P⟩;simp only[kd]at O⊢;have h1:fl≠1:=fun e=>O (by simp[e])
   rw[if_neg h1]
   by_cases h2:fl=2
   ·rw[if_pos h2]
    subst h2;refine⟨_,fun _ _ _=>Y,fun M M' v D c=> ?_⟩;simp only[ak]at c⊢;simp only[vK]at hf
    split at hf
    ·rename_i b o t
     cases t with
     |nil=>simp only[ni]at c⊢;rw[<-Pg (D b hf)];exact c
     |cons=>exact c
    ·rename_i x t
     cases t with
     |nil=>cases x<;>exact c
     |cons=>exact c
    ·exact hf.elim
   ·rw[if_neg h2]
    refine⟨_,fun _ _ _=>Y,fun M M' v hb Z c=> ?_⟩;simp only[ak]at c⊢
    split at c
    ·exact X8 hb c
    ·exact c.elim
  |fld off=>
   have P:Dn C base (.fld off) args (fun M v M'=>(ak C base (.fld off) args M (fun u _=>v=u) (fun _ _=>False))/\M'=M):=wW fun M K KP=>by
    simp only[ak]
    split
    ·exact afT
    ·simp
   have B:∀{M M':Mem},M.aB=M'.aB->∀{x:PV} {K:PV->Prop},kW off x M K->kW off x M' K:=by
    intro M M' Z x K hh;cases x with
    |ji k ver i o=>simp only[kW,qh Z]at hh⊢;exact hh
    |d x=>cases x<;>exact hh
    | _=>exact hh
   refine⟨_,?_,P⟩;simp only[kd]at O⊢;have h1:fl≠1:=fun e=>O (by simp[e])
   have h2:fl≠2:=fun e=>O (by simp[e])
   rw[if_neg h1,if_neg h2]
   by_cases g:fl=3
   ·rw[if_pos g]
    refine⟨_,fun _ _ _=>Y,fun M M' v D c=> ?_⟩;simp only[ak]at c⊢
    split at c
    ·exact B D c
    ·exact c.elim
   ·rw[if_neg g]
    refine⟨_,fun _ _ _=>Y,fun M M' v hb Z c=> ?_⟩;simp only[ak]at c⊢
    split at c
    ·exact B Z c
    ·exact c.elim
  |bU sz=>
   have P:Dn C base (.bU sz) args (fun M v M'=>(ak C base (.bU sz) args M (fun u _=>v=u) (fun _ _=>False))/\M'=M):=wW fun M K KP=>by
    simp only[ak]
    split
    ·exact ady
    ·simp
   refine⟨_,?_,P⟩;simp only[kd]at O⊢;have h1:fl≠1:=fun e=>O (by simp[e])
   rw[if_neg h1];refine⟨_,fun _ _ _=>Y,fun M M' v D c=> ?_⟩;simp only[ak]at c⊢
   split at c
   ·simp only[rW,qh D]at c⊢;exact c
   ·exact c.elim
  |len=>
   have P:Dn C base .len args (fun M v M'=>(ak C base .len args M (fun u _=>v=u) (fun _ _=>False))/\M'=M):=wW fun M K KP=>by
    simp only[ak]
    split
    ·rw[RJ]
     constructor
     ·rintro⟨n,h1,h2⟩;exact⟨_,RJ.2 ⟨n,h1,rfl⟩,h2⟩
     ·rintro⟨v,h1,h2⟩
      obtain⟨n,U,rfl⟩:=RJ.1 h1;exact⟨n,U,h2⟩
    ·simp
   refine⟨_,?_,P⟩;simp only[kd]at O⊢;have h1:fl≠1:=fun e=>O (by simp[e])
   rw[if_neg h1];refine⟨_,fun _ _ _=>Y,fun M M' v D c=> ?_⟩;simp only[ak]at c⊢
   split at c
   ·simp only[qg,qh D]at c⊢;exact c
   ·exact c.elim
  |VX sz=>
   have P:Dn C base (.VX sz) args (fun M v M'=>(ak C base (.VX sz) args M (fun u _=>v=u) (fun _ _=>False))/\M'=M):=wW fun M K KP=>by
    simp only[ak]
    split
    ·rename_i k ver skip kk n
     cases M.row k ver with
     |none=>simp
     |some A=>simp[and_assoc]
    ·simp
   refine⟨_,?_,P⟩;simp only[kd];refine⟨_,fun _ _ _=>Y,fun M M' v D c=> ?_⟩;simp only[ak]at c⊢
   split at c
   ·simp only[qh D]at c⊢;exact c
   ·exact c.elim
  |VW sz=>
   have P:Dn C base (.VW sz) args (fun M v M'=>(ak C base (.VW sz) args M (fun u _=>v=u) (fun _ _=>False))/\M'=M):=wW fun M K KP=>by
    simp only[ak]
    split
    ·rename_i k ver skip kk n
     cases M.row k ver with
     |none=>simp
     |some A=>simp[and_assoc]
    ·simp
   refine⟨_,?_,P⟩;simp only[kd];refine⟨_,fun _ _ _=>Y,fun M M' v D c=> ?_⟩;simp only[ak]at c⊢
   split at c
   ·simp only[qh D]at c⊢;exact c
   ·exact c.elim
  |Hy f=>
   exact⟨fun M p M'=>SC C f args M (fun q N=>q=p/\N=M') (fun _ _=>False),trivial,fun M K KP=>Y⟩
  |iG f=>
   refine⟨_,⟨fun M v=>ak C base (.iG f) args M (fun u _=>v=u) (fun _ _=>False),fun _ _ _=>Y,fun M M' v hb Z c=> ?_⟩,wW fun M K KP=> ?_⟩
   ·obtain⟨ds,X,h1⟩:=c
    exact⟨ds,Kz hb Z X,h1⟩
   ·simp only[ak,Jb]
    constructor
    ·rintro⟨ds,X,x,h1,h2,g⟩;exact⟨.d x,⟨ds,X,x,h1,h2,rfl⟩,g⟩
    ·rintro⟨v,⟨ds,X,x,h1,h2,rfl⟩,g⟩;exact⟨ds,X,x,h1,h2,g⟩
  |FD ok ks z=>
   refine⟨_,⟨fun M v=>ak C base (.FD ok ks z) args M (fun u _=>v=u) (fun _ _=>False),fun _ _ _=>Y,fun M M' v hb Z c=> ?_⟩,wW fun M K KP=> ?_⟩
   ·simp only[ak]at c⊢
    split at c
    ·exact c
    ·rename_i b k
     cases ac:M.box b with
     |none=>simp only[ac]at c
     |some cs=>
      have:M'.box b=some cs:=by simp[Mem.box,hb _ _ (lN ac)]
      simp only[ac]at c;simp only[this];exact c
    ·exact c
   ·simp only[ak]
    split
    ·split<;>simp
    ·split
     ·split<;>simp
     ·simp
    ·simp
  |mkMap i=>
   cases args with
   |nil=>
    refine⟨_,⟨[.gI []], .mref (base+i),True,fun _ _ _=>Y⟩,fun M K KP=> ?_⟩;simp only[ak];constructor
    ·rintro⟨h1,h2⟩;exact⟨_,_,⟨trivial,rfl,h1,rfl⟩,h2⟩
    ·rintro⟨v,M',⟨_,rfl,h1,rfl⟩,h2⟩;exact⟨h1,h2⟩
   |cons x l=>
    refine⟨_,⟨[], .dead,False,fun _ _ _=>Y⟩,fun M K KP=> ?_⟩;simp[ak]
  |alloc i zs=>
   cases args with
   |nil=>
    refine⟨_,⟨zs.map .d, .ptr (base+i) 0,True,fun _ _ _=>Y⟩,fun M K KP=> ?_⟩;simp only[ak];constructor
    ·rintro⟨h1,h2⟩;exact⟨_,_,⟨trivial,rfl,h1,rfl⟩,h2⟩
    ·rintro⟨v,M',⟨_,rfl,h1,rfl⟩,h2⟩;exact⟨h1,h2⟩
   |cons x l=>
    refine⟨_,⟨[], .dead,False,fun _ _ _=>Y⟩,fun M K KP=> ?_⟩;simp[ak]
  |box i=>
   have ab:(∀M K KP,¬ak C base (.box i) args M K KP)->∃R,Spec base (kd (.box i) fl) R/\Dn C base (.box i) args R:=fun hn=>
    ⟨_,⟨[], .dead,False,fun _ _ _=>Y⟩,fun M K KP=>⟨fun hh=>(hn _ _ _ hh).elim,by rintro⟨_,_,⟨hh,_⟩,_⟩;exact hh.elim⟩⟩
   rcases args with _|⟨x,_|⟨y,l⟩⟩
   ·exact ab fun M K KP hh=>by simp[ak]at hh
   ·refine⟨_,⟨x.cells, .ptr (base+i) 0,x.mP=false,fun _ _ _=>Y⟩,fun M K KP=> ?_⟩
    simp only[ak];constructor
    ·rintro⟨X,h1,h2⟩;exact⟨_,_,⟨X,rfl,h1,rfl⟩,h2⟩
    ·rintro⟨v,M',⟨X,rfl,h1,rfl⟩,h2⟩;exact⟨X,h1,h2⟩
   ·exact ab fun M K KP hh=>by simp[ak]at hh
  |store n=>
   have hx:fl=3\/fl=2\/(∃i,fl=i+4)\/kd (.store n) fl= .w:=by
    simp only[kd]
    split
    ·exact .inl rfl
    ·exact .inr (.inl rfl)
    ·exact .inr (.inr (.inl ⟨_,rfl⟩))
    ·exact .inr (.inr (.inr rfl))
   rcases hx with rfl|rfl|⟨i,rfl⟩|hw
   ·simp only[vK]at hf
    split at hf
    ·rename_i k ver j off t
     refine⟨fun M v M'=>∃a,ak C base (.store n) (.ji k ver j off::t) ⟨[],[],M.aB⟩ (fun u m=>v=u/\a=m.aB) (fun _ _=>False)/\M'={M with aB:=a},
      ⟨fun aB v a=>ak C base (.store n) (.ji k ver j off::t) ⟨[],[],aB⟩ (fun u m=>v=u/\a=m.aB) (fun _ _=>False),fun _ _ _=>Y⟩,fun M K KP=> ?_⟩
     rcases t with _|⟨y,_|⟨z,l⟩⟩
     ·simp[ak]
     ·have B:(⟨[],[],M.aB⟩:Mem).row k ver=M.row k ver:=rfl
      simp only[ak,iV,B];cases hr:M.row k ver with
      |none=>simp
      |some A=>
       cases hd:gU y.cells with
       |none=>simp
       |some ds=>
        simp only;constructor
        ·rintro⟨h1,h2,g,E,F,I⟩;exact⟨_,_,⟨_,⟨h1,h2,g,E,F,rfl,rfl⟩,rfl⟩,I⟩
        ·rintro⟨v,M',⟨a,⟨h1,h2,g,E,F,rfl,rfl⟩,rfl⟩,I⟩
         exact⟨h1,h2,g,E,F,I⟩
     ·simp[ak]
    ·exact hf.elim
   ·simp only[vK]at hf
    split at hf
    ·rename_i b off t
     refine⟨fun M v M'=>∃Q,ak C base (.store n) (.ptr b off::t) ⟨M.boxes,M.fz,[]⟩ (fun u m=>v=u/\Q=m.boxes) (fun _ _=>False)/\M'={M with boxes:=Q},
      ⟨fun bs fz v Q=>ak C base (.store n) (.ptr b off::t) ⟨bs,fz,[]⟩ (fun u m=>v=u/\Q=m.boxes) (fun _ _=>False),fun _ _ _=>Y⟩,fun M K KP=> ?_⟩
     rcases t with _|⟨y,_|⟨z,l⟩⟩
     ·simp[ak]
     ·have ai:(⟨M.boxes,M.fz,[]⟩:Mem).box b=M.box b:=rfl
      simp only[ak,iV,ai];cases hb:M.box b with
      |none=>simp
      |some cs=>
       simp only;constructor
       ·rintro⟨h1,h2,g,E,F⟩;exact⟨_,_,⟨_,⟨h1,h2,g,E,rfl,rfl⟩,rfl⟩,F⟩
       ·rintro⟨v,M',⟨Q,⟨h1,h2,g,E,rfl,rfl⟩,rfl⟩,F⟩
        exact⟨h1,h2,g,E,F⟩
     ·simp[ak]
    ·rename_i x t
     refine⟨fun M v M'=>False/\M'=M/\v=v,⟨fun _ _ _ _=>False,fun _ _ _=>⟨fun hh=>hh.1.elim,fun⟨_,hh,_⟩=>hh.elim⟩⟩,fun M K KP=> ?_⟩
     rcases t with _|⟨y,_|⟨z,l⟩⟩<;>simp[ak,iV]
    ·exact hf.elim
   ·simp only[vK]at hf
    split at hf
    ·rename_i b off t
     subst hf;refine⟨_,⟨fun cs ae=>∃y,t=[y]/\y.cells.length=n/\y.cells.all PV.one=true/\off+n<=cs.length/\ae=splice cs off y.cells,fun _ _ _=>Y⟩,fun M K KP=> ?_⟩
     rcases t with _|⟨y,_|⟨z,l⟩⟩
     ·simp[ak]
     ·simp only[ak,iV]
      constructor
      ·intro hh
       split at hh
       ·rename_i cs aq
        obtain⟨h1,h2,g,E,F⟩:=hh;exact⟨_,_,⟨cs,_,lN aq,h1,⟨y,rfl,h2,g,E,rfl⟩,rfl,rfl⟩,F⟩
       ·exact hh.elim
      ·rintro⟨v,M',⟨cs,ae,h1,h2,⟨y',hy,g,E,F,rfl⟩,rfl,rfl⟩,I⟩
       simp only[List.cons.injEq,and_true]at hy;subst hy;have:M.box (base+i)=some cs:=by simp[Mem.box,h1]
       rw[this];exact⟨h2,g,E,F,I⟩
     ·simp[ak]
    ·exact hf.elim
   ·rw[hw]
    refine⟨fun M v M'=>ak C base (.store n) args M (fun u m=>v=u/\M'=m) (fun _ _=>False),trivial,fun M K KP=> ?_⟩;simp only[ak]
    rcases args with _|⟨x,_|⟨y,_|⟨z,l⟩⟩⟩
    ·simp
    ·simp
    ·simp only[iV]
     cases x with
     |ptr b off=>cases h1:M.box b<;>simp[h1,and_assoc]
     |ji k ver i off=>cases h1:M.row k ver<;>cases h2:gU y.cells<;>simp[h1,h2,and_assoc]
     | _=>simp
    ·simp
  |copy sz=>
   refine⟨fun M v M'=>∃a,ak C base (.copy sz) args ⟨[],[],M.aB⟩ (fun u m=>v=u/\a=m.aB) (fun _ _=>False)/\M'={M with aB:=a},
    ⟨fun aB v a=>ak C base (.copy sz) args ⟨[],[],aB⟩ (fun u m=>v=u/\a=m.aB) (fun _ _=>False),fun _ _ _=>Y⟩,fun M K KP=> ?_⟩
   simp only[ak]
   split
   ·rename_i k ver skip x
    have B:∀k ver,(⟨[],[],M.aB⟩:Mem).row k ver=M.row k ver:=fun _ _=>rfl
    have ao:Oz x ⟨[],[],M.aB⟩=Oz x M:=by cases x with
     |d x=>cases x<;>rfl
     | _=>rfl
    simp only[B,ao];cases M.row k ver with
    |none=>simp
    |some A=>
     cases Oz x M with
     |none=>simp
     |some ys=>
      simp only;constructor
      ·rintro⟨h1,h2,g,L⟩;exact⟨_,_,⟨_,⟨h1,h2,g,rfl,rfl⟩,rfl⟩,L⟩
      ·rintro⟨v,M',⟨a,⟨h1,h2,g,rfl,rfl⟩,rfl⟩,L⟩;exact⟨h1,h2,g,L⟩
   ·simp
  |lG sz zs is=>
   refine⟨fun M v M'=>∃a,(∃ds xs,gU args=some ds/\qy sz zs is (ds.map DV.strip)=some xs/\0<sz/\(∀x∈xs,x.fits sz=true)/\v= .tsl M.aB.length 0 0/\a=M.aB++ [some ⟨sz,xs,0,1⟩])/\M'={M with aB:=a},
    ⟨fun aB v a=>∃ds xs,gU args=some ds/\qy sz zs is (ds.map DV.strip)=some xs/\0<sz/\(∀x∈xs,x.fits sz=true)/\v= .tsl aB.length 0 0/\a=aB++ [some ⟨sz,xs,0,1⟩],fun _ _ _=>Y⟩,fun M K KP=> ?_⟩
   simp only[ak];constructor
   ·intro h
    split at h
    ·rename_i ds aw
     split at h
     ·rename_i xs aD
      exact⟨_,_,⟨_,⟨ds,xs,aw,aD,h.1,h.2.1,rfl,rfl⟩,rfl⟩,h.2.2⟩
     ·exact h.elim
    ·exact h.elim
   ·rintro⟨v,M',⟨a,⟨ds,xs,h1,h2,g,E,rfl,rfl⟩,rfl⟩,F⟩
    simp only[h1,h2];exact⟨g,E,F⟩
  |app sz ap=>
   refine⟨fun M v M'=>∃a,ak C base (.app sz ap) args ⟨[],[],M.aB⟩ (fun u m=>v=u/\a=m.aB) (fun _ _=>False)/\M'={M with aB:=a},
    ⟨fun aB v a=>ak C base (.app sz ap) args ⟨[],[],aB⟩ (fun u m=>v=u/\a=m.aB) (fun _ _=>False),fun _ _ _=>Y⟩,fun M K KP=> ?_⟩
   simp only[ak]
   rcases args with _|⟨s,_|⟨x,_|⟨z,l⟩⟩⟩
   ·simp
   ·simp
   ·have B:∀k ver,(⟨[],[],M.aB⟩:Mem).row k ver=M.row k ver:=fun _ _=>rfl
    have S:yO sz x ⟨[],[],M.aB⟩=yO sz x M:=by cases x with
     |d x=>cases x<;>rfl
     | _=>rfl
    simp only[kH,S];cases yO sz x M with
    |none=>simp
    |some ys=>
     simp only
     split
     ·constructor
      ·rintro⟨h1,h2,g,E,F,I,L⟩;exact⟨_,_,⟨_,⟨h1,h2,g,E,F,I,rfl,rfl⟩,rfl⟩,L⟩
      ·rintro⟨v,M',⟨a,⟨h1,h2,g,E,F,I,rfl,rfl⟩,rfl⟩,L⟩;exact⟨h1,h2,g,E,F,I,L⟩
     ·rename_i k ver skip
      simp only[B];cases M.row k ver with
      |none=>simp
      |some A=>
       simp only;constructor
       ·rintro⟨h1,h2,g,E,F,I,L⟩;exact⟨_,_,⟨_,⟨h1,h2,g,E,F,I,rfl,rfl⟩,rfl⟩,L⟩
       ·rintro⟨v,M',⟨a,⟨h1,h2,g,E,F,I,rfl,rfl⟩,rfl⟩,L⟩;exact⟨h1,h2,g,E,F,I,L⟩
     ·simp
   ·simp
  |QN sz=>
   have az:∀(M:Mem) (J:PV->Mem->Prop) (KP:DV->Mem->Prop),ak C base (.app sz false) args M J KP↔∃k ver a,(ak C base (.app sz false) args ⟨[],[],M.aB⟩ (fun u m=> .tsl k ver 0=u/\a=m.aB) (fun _ _=>False))/\J (.tsl k ver 0) {M with aB:=a}:=by
    intro M J KP;simp only[ak]
    rcases args with _|⟨s,_|⟨x,_|⟨z,l⟩⟩⟩
    ·simp
    ·simp
    ·have B:∀k ver,(⟨[],[],M.aB⟩:Mem).row k ver=M.row k ver:=fun _ _=>rfl
     have S:yO sz x ⟨[],[],M.aB⟩=yO sz x M:=by cases x with
      |d x=>cases x<;>rfl
      | _=>rfl
     simp only[kH,S];cases yO sz x M with
     |none=>simp
     |some ys=>
      simp only
      split
      ·constructor
       ·rintro⟨h1,h2,g,E,F,I,L⟩;exact⟨_,_,_,⟨h1,h2,g,E,F,I,rfl,rfl⟩,L⟩
       ·rintro⟨k,ver,a,⟨h1,h2,g,E,F,I,h8,rfl⟩,L⟩;cases h8;exact⟨h1,h2,g,E,F,I,L⟩
      ·rename_i k ver skip
       simp only[B];cases M.row k ver with
       |none=>simp
       |some A=>
        simp only;constructor
        ·rintro⟨h1,h2,g,E,F,I,L⟩;exact⟨_,_,_,⟨h1,h2,g,E,F,I,rfl,rfl⟩,L⟩
        ·rintro⟨k,ver,a,⟨h1,h2,g,E,F,I,h8,rfl⟩,L⟩;cases h8;exact⟨h1,h2,g,E,F,I,L⟩
      ·simp
    ·simp
   have an:∀(M:Mem) (k ver:Nat),M.frz [.tsl k ver 0]={M with aB:=FB [k] M.aB}:=fun M k ver=>by simp[Mem.frz,kG,kF]
   have am:∀(M:Mem) (k ver:Nat),datum M (.tsl k ver 0)=datum ⟨[],[],M.aB⟩ (.tsl k ver 0):=fun _ _ _=>rfl
   refine⟨fun M v M'=>∃a,(∃k ver G d,(ak C base (.app sz false) args ⟨[],[],M.aB⟩ (fun u m=> .tsl k ver 0=u/\G=m.aB) (fun _ _=>False))/\datum ⟨[],[],G⟩ (.tsl k ver 0)=some d/\v= .d d/\a=FB [k] G)/\M'={M with aB:=a},
    ⟨fun aB v a=>∃k ver G d,(ak C base (.app sz false) args ⟨[],[],aB⟩ (fun u m=> .tsl k ver 0=u/\G=m.aB) (fun _ _=>False))/\datum ⟨[],[],G⟩ (.tsl k ver 0)=some d/\v= .d d/\a=FB [k] G,fun _ _ _=>Y⟩,fun M K KP=> ?_⟩
   have:=az M (fun v M'=>∃d,datum M' v=some d/\K (.d d) (M'.frz [v])) KP;constructor
   ·intro hh
    obtain⟨k,ver,G,h1,d,h2,g⟩:=this.1 hh;rw[am]at h2;rw[an]at g;exact⟨_,_,⟨_,⟨k,ver,G,d,h1,h2,rfl,rfl⟩,rfl⟩,g⟩
   ·rintro⟨_,_,⟨_,⟨k,ver,G,d,h1,h2,rfl,rfl⟩,rfl⟩,g⟩
    exact this.2 ⟨k,ver,G,h1,d,by rw[am];exact h2,by rw[an];exact g⟩
  |nZ f=>
   simp only[kd]at h O
   by_cases ax:fl=1
   ·subst ax
    obtain⟨ds,rfl⟩:=jV (args:=args) hf;have av:∀M:Mem,cZ M (ds.map .d)=some ds:=by
     intro M;clear hf h O
     induction ds with
     |nil=>rfl
     |cons d ds ih=>simp only[W,cZ,datum,ih]
    simp only[kd,if_true];refine⟨fun M v M'=>∃a,(∃r H,Pure C f (ds.map DV.strip) r H/\((∃x,r= .d x/\Bo x=true/\H=[]/\v=r/\a=M.aB)\/((∀A∈H,A.st≠2)/\v=r.shift M.aB.length/\a=M.aB++H.map some)))/\M'={M with aB:=a},
     ⟨fun aB v a=>∃r H,Pure C f (ds.map DV.strip) r H/\((∃x,r= .d x/\Bo x=true/\H=[]/\v=r/\a=aB)\/((∀A∈H,A.st≠2)/\v=r.shift aB.length/\a=aB++H.map some)),fun _ _ _=>Y⟩,fun M K KP=> ?_⟩
    simp only[ak,Ja,av,Option.some.injEq,zT];constructor
    ·rintro⟨_,rfl,r,H,T,(⟨x,rfl,U,rfl,g2⟩|⟨U,g2⟩)⟩
     ·exact⟨_,M,⟨_,⟨_,_,T, .inl ⟨x,rfl,U,rfl,rfl,rfl⟩⟩,rfl⟩,g2⟩
     ·exact⟨_,_,⟨_,⟨_,_,T, .inr ⟨U,rfl,rfl⟩⟩,rfl⟩,g2⟩
    ·rintro⟨v,M',⟨a,⟨r,H,T,(⟨x,rfl,U,rfl,rfl,rfl⟩|⟨U,rfl,rfl⟩)⟩,rfl⟩,g2⟩
     ·exact⟨ds,rfl,_,_,T, .inl ⟨x,rfl,U,rfl,g2⟩⟩
     ·exact⟨ds,rfl,_,_,T, .inr ⟨U,g2⟩⟩
   ·simp_all
  |dA sz zs is=>simp only[kd]at h O;split at h<;>simp_all
  |mkI t=>simp only[kd]at h O;split at h<;>simp_all
  |EC sz lo hi mx=>simp only[kd]at h O;split at h<;>simp_all
  | _=>simp_all[kd]
end
def FC (env:List (Nat×PV)):Option (Nat×Bool)->Option Bool
 |none=>some true
 |some (t,a)=>match look env t with| .d (.bool x)=>some (x==a)| .d (.tup [])=>some false| _=>none
section
variable {C:Ctx}{base:Nat}
variable{o:PO}{K:St->Prop}{KP:DV->Mem->Prop}{s:St}
def dU:dO C base o K KP s↔match FC s.env o.g with
  |some true=>vK base o.fl (o.args.map s.val)/\ak C base o.op (o.args.map s.val) s.mem (fun v M=>K ⟨put s.env o.dst v,M⟩) KP
  |some false=>K ⟨put s.env o.dst (.d (.tup [])),s.mem⟩
  |none=>False:=by
 unfold dO FC;cases f:o.g with
 |none=>exact Y
 |some q=>
  obtain⟨t,a⟩:=q;simp only;generalize look s.env t=p;cases p with
  |d y=>
   cases y with
   |bool x=>
    simp only
    by_cases b:x=a
    ·subst b
     have:¬(x= !x):=by cases x<;>simp
     simp only[beq_self_eq_true,true_implies,this,false_implies,and_true]
    ·have h1:(x==a)=false:=by simp[b]
     have h2:x= !a:=by cases x<;>cases a<;>simp_all
     simp only[h1];constructor
     ·intro h;exact h.2 h2
     ·intro h;exact⟨fun e=>absurd e b,fun _=>h⟩
   |tup c=>cases c<;>exact Y
   | _=>exact Y
  | _=>exact Y
def Opd.isT (d:Nat):Opd->Bool| .t n=>n==d| .c _=>false
def looks (o:PO)(d:Nat):Bool:=o.args.any (Opd.isT d)||(match o.g with|some (t,_)=>t==d|none=>false)
def qP (x y:PO):Bool:=(match x.dst with|some d=> !looks y d&&decide (y.dst≠some d)|none=>true)&&(match y.dst with|some d=> !looks x d|none=>true)
variable{env:List (Nat×PV)}{dst:Option Nat}{v:PV}
def KI {t:Nat}(h:∀d,dst=some d->t≠d):look (put env dst v) t=look env t:=by
 cases dst with
 |none=>rfl
 |some d=>
  have:(d==t)=false:=by simp;exact fun e=>h d rfl e.symm
  simp[put,look,this]
variable{M:Mem}
def dD {M':Mem}(h:∀d,dst=some d->looks o d=false):
  o.args.map (St.val ⟨put env dst v,M'⟩)=o.args.map (St.val ⟨env,M⟩)/\FC (put env dst v) o.g=FC env o.g:=by
 constructor
 ·refine bo fun x e=> ?_
  cases x with
  |c d=>rfl
  |t n=>
   refine KI fun d hd=> ?_
   have:=h d hd;simp only[looks,bc,List.any_eq_false]at this;have:=this.1 _ e
   simpa[Opd.isT]using this
 ·cases b:o.g with
  |none=>rfl
  |some q=>
   obtain⟨t,a⟩:=q;simp only[FC];rw[KI fun d hd=> ?_];have:=h d hd;simp only[looks,b,bc,beq_eq_false_iff_ne]at this;exact this.2
def Ext (K:St->Prop):Prop:=∀s a:St,(∀t,look s.env t=look a.env t)->s.mem=a.mem->K s->K a
def Ext.use (b:Ext K){s a:St}(h:K s)(c:∀t,look s.env t=look a.env t)(d:s.mem=a.mem):K a:=b s a c d h
def fQ {c f:Option Nat}{i j:PV}(h:∀d,c=some d->f≠some d)(t:Nat):look (put (put env c i) f j) t=look (put (put env f j) c i) t:=by
 cases c with
 |none=>rfl
 |some a=>
  cases f with
  |none=>rfl
  |some b=>
   have g:a≠b:=fun e=>h a rfl (e▸rfl)
   simp only[put,look]
   by_cases h1:a=t
   ·subst h1
    have:(b==a)=false:=by simp;exact fun e=>g e.symm
    simp[this]
   ·have:(a==t)=false:=by simp[h1]
    simp[this]
def ag6 {a oi:PO}(hk:(kd a.op a.fl).swap (kd oi.op oi.fl)=true)(n:qP a oi=true){K:St->Prop}{KP:DV->Mem->Prop}(q:Ext K)(s:St)
  (h:dO C base a (fun A=>dO C base oi K KP A) KP s):dO C base oi (fun A=>dO C base a K KP A) KP s:=by
 have z:kd a.op a.fl≠ .x:=by intro e;rw[e]at hk;cases hk
 have p:kd oi.op oi.fl≠ .x:=by intro e;rw[e]at hk;cases hh:kd a.op a.fl<;>rw[hh]at hk<;>cases hk
 simp only[qP,H]at n;obtain⟨i,B⟩:=n;have r:∀d,a.dst=some d->looks oi d=false:=by intro d hd;rw[hd]at i;simp at i;exact i.1
 have hd:∀d,a.dst=some d->oi.dst≠some d:=by intro d hd;rw[hd]at i;simp at i;exact i.2
 have k:∀d,oi.dst=some d->looks a d=false:=by intro d hd;rw[hd]at B;simpa using B
 obtain⟨env,M⟩:=s;rw[dU]at h⊢;simp only at h⊢;cases j:FC env a.g with
 |none=>rw[j]at h;exact h.elim
 |some I=>
  rw[j]at h;cases I with
  |false=>
   simp only at h;rw[dU]at h;simp only[(dD (M:=M) (M':=M) r).1,(dD (M:=M) (M':=M) r).2]at h;cases l:FC env oi.g with
   |none=>rw[l]at h;exact h.elim
   |some u=>
    rw[l]at h;cases u with
    |false=>
     simp only at h⊢;rw[dU];simp only[(dD (M:=M) (M':=M) k).2,j];exact q.use h (fQ hd) rfl
    |true=>
     simp only at h⊢;obtain⟨E,N⟩:=h;obtain⟨R,_,D⟩:=L8 (C:=C) p E;obtain⟨v,M',r1,r2⟩:=(D _ _ _).1 N;refine⟨E,(D _ _ _).2 ⟨v,M',r1,?_⟩⟩;rw[dU];simp only[(dD (M:=M) (M':=M') k).2,j];exact q.use r2 (fQ hd) rfl
  |true=>
   simp only at h;obtain⟨f,y⟩:=h;obtain⟨T,P,c⟩:=L8 (C:=C) z f;obtain⟨F,t,r1,h⟩:=(c _ _ _).1 y;rw[dU]at h;simp only[(dD (M:=M) (M':=t) r).1,(dD (M:=M) (M':=t) r).2]at h;cases l:FC env oi.g with
   |none=>rw[l]at h;exact h.elim
   |some u=>
    rw[l]at h;cases u with
    |false=>
     simp only at h⊢;rw[dU];simp only[(dD (M:=M) (M':=M) k).1,(dD (M:=M) (M':=M) k).2,j];exact⟨f,(c _ _ _).2 ⟨F,t,r1,q.use h (fQ hd) rfl⟩⟩
    |true=>
     simp only at h⊢;obtain⟨o,w⟩:=h;obtain⟨S,O,m⟩:=L8 (C:=C) p o;obtain⟨Q,G,r2,h⟩:=(m _ _ _).1 w;obtain⟨b,J,L⟩:=aaw hk P O _ _ _ _ _ r1 r2;refine⟨o,(m _ _ _).2 ⟨Q,b,J,?_⟩⟩;rw[dU];simp only[(dD (M:=M) (M':=b) k).1,(dD (M:=M) (M':=b) k).2,j];exact⟨f,(c _ _ _).2 ⟨F,G,L,q.use h (fQ hd) rfl⟩⟩
def SY.mono {b:Nat}{args:List PV}{M:Mem}{K i:PV->Mem->Prop}{KP:DV->Mem->Prop}(h:SY C b args M K KP)(hk:∀v M',K v M'->i v M'):SY C b args M i KP:=by
 intro X w E f l o n q;obtain⟨fn,d,a,body,h1,h2⟩:=h X w E f l o n q;refine⟨fn,d,a,body,h1,h2.mono fun e w' g=> ?_⟩;cases e with
 |returned v=>obtain⟨p,M',j,k,m⟩:=g;exact⟨p,M',j,hk _ _ k,m⟩
 |panicked c=>exact g
 |outgrown=>exact g
def jH {f:Bool}{l:List PV}{K b:Option Int->List PV->Prop}(hk:∀a l,K a l->b a l)(h:dJ f l K):dJ f l b:=by
 unfold dJ at h⊢
 split at h
 ·exact hk _ _ h
 ·exact hk _ _ h
 ·exact h.elim
variable{op:POp}{args:List PV}
def BN {K H:PV->Mem->Prop}(hk:∀v M',K v M'->H v M')(h:ak C base op args M K KP):ak C base op args M H KP:=by
 by_cases g:∃fl,kd op fl≠ .x/\vK base fl args
 ·obtain⟨fl,h1,h2⟩:=g
  obtain⟨R,_,J⟩:=L8 (C:=C) h1 h2;obtain⟨v,M',r,k⟩:=(J _ _ _).1 h;exact(J _ _ _).2 ⟨v,M',r,hk _ _ k⟩
 ·have F:kd op 0= .x:=by
   by_cases hh:kd op 0= .x
   ·exact hh
   ·exact absurd ⟨0,hh,trivial⟩ g
  cases op with
  |QO sz=>
   simp only[ak]at h⊢
   split at h
   ·exact⟨h.1,h.2.1,h.2.2.1,hk _ _ h.2.2.2⟩
   ·exact hk _ _ h
   ·exact h.elim
  |dA sz zs S=>
   simp only[ak]at h⊢
   split at h
   ·rename_i ds e
    try simp only[e]
    split at h
    ·rename_i xs o;(try simp only[o]);exact hk _ _ h
    ·exact h.elim
   ·exact h.elim
  |store n=>
   simp only[ak]at h⊢
   split at h
   ·rename_i x y
    simp only[iV]at h⊢
    split at h
    ·split at h
     ·rename_i cs E;(try simp only[E]);exact⟨h.1,h.2.1,h.2.2.1,h.2.2.2.1,hk _ _ h.2.2.2.2⟩
     ·exact h.elim
    ·split at h
     ·rename_i A ds q e;(try simp only[q,e]);exact⟨h.1,h.2.1,h.2.2.1,h.2.2.2.1,h.2.2.2.2.1,hk _ _ h.2.2.2.2.2⟩
     ·exact h.elim
    ·exact h.elim
   ·exact h.elim
  |mkI t=>
   simp only[ak]at h⊢
   split at h
   ·split at h
    ·rename_i d hd;(try simp only[hd]);exact hk _ _ h
    ·exact h.elim
   ·exact h.elim
  |Ji lo Q=>
   simp only[ak,xg]at h⊢
   split at h
   ·refine jH (fun a l=>jH fun b l=>jH fun m l hh=> ?_) h
    exact⟨hh.1,hh.2.1,hh.2.2.1,hh.2.2.2.1,hh.2.2.2.2.1,hk _ _ hh.2.2.2.2.2⟩
   ·exact h.elim
  |EC sz lo Q W=>
   simp only[ak,wZ]at h⊢
   split at h
   ·refine jH (fun a l=>jH fun b l=>jH fun m l hh=> ?_) h
    exact⟨hh.1,hh.2.1,hh.2.2.1,hh.2.2.2.1,hh.2.2.2.2.1,hh.2.2.2.2.2.1,hk _ _ hh.2.2.2.2.2.2⟩
   ·refine jH (fun a l=>jH fun b l=>jH fun m l hh=> ?_) h
    refine⟨hh.1,?_⟩;have h2:=hh.2
    split at h2
    ·rename_i A q
     try simp only[q]
     split at h2
     ·exact⟨h2.1,h2.2.1,h2.2.2.1,h2.2.2.2.1,hk _ _ h2.2.2.2.2⟩
     ·exact⟨h2.1,h2.2.1,h2.2.2.1,h2.2.2.2.1,h2.2.2.2.2.1,hk _ _ h2.2.2.2.2.2⟩
    ·exact h2.elim
   ·exact h.elim
  |call f=>exact SC.mono h hk
  |Hz f=>
   obtain⟨P,h1,h2,j⟩:=h;exact⟨P,h1,h2,fun p M' u=>hk _ _ (j p M' u)⟩
  |Cb agg n f=>
   cases args with
   |nil=>exact h
   |cons a L=>
    simp only[ak]at h⊢;obtain⟨v,h1,h2⟩:=jo.1 h;exact jo.2 ⟨v,h1,SC.mono h2 fun p M' hh=>⟨hh.1,hk _ _ hh.2⟩⟩
  |mkRow sz z=>
   simp only[ak]at h⊢
   split at h
   ·exact⟨h.1,h.2.1,h.2.2.1,h.2.2.2.1,h.2.2.2.2.1,hk _ _ h.2.2.2.2.2⟩
   ·exact h.elim
  |s2b=>
   simp only[ak]at h⊢
   split at h
   ·exact hk _ _ h
   ·exact h.elim
  |b2s=>
   simp only[ak]at h⊢
   split at h
   ·rename_i x
    cases g:yO 0 x M with
    |none=>simp only[g]at h
    |some xs=>
     simp only[g]at h⊢;cases c:bytesOf xs with
     |none=>simp only[c]at h
     |some l=>simp only[c]at h⊢;exact hk _ _ h
   ·exact h.elim
  |clr sz z=>
   simp only[ak]at h⊢
   split at h
   ·rename_i k ver skip
    cases q:M.row k ver with
    |none=>simp only[q]at h
    |some A=>simp only[q]at h⊢;exact⟨h.1,h.2.1,h.2.2.1,hk _ _ h.2.2.2⟩
   ·exact h.elim
  |nZ f=>
   obtain⟨ds,h1,r,w,h2,j⟩:=h;refine⟨ds,h1,r,w,h2,j.imp ?_ ?_⟩
   ·rintro⟨x,B,D,N,O⟩;exact⟨x,B,D,N,hk _ _ O⟩
   ·rintro⟨B,D⟩;exact⟨B,hk _ _ D⟩
  |iG f=>
   obtain⟨ds,h1,x,h2,j,I⟩:=h;exact⟨ds,h1,x,h2,j,hk _ _ I⟩
  |gJ=>
   simp only[ak]at h⊢
   split at h
   ·exact⟨h.1,h.2.mono hk⟩
   ·exact⟨h.1,h.2.mono hk⟩
   ·exact SY.mono h hk
   ·exact h.elim
  |zG neq=>
   simp only[ak]at h⊢
   split at h
   ·exact hk _ _ h
   ·exact hk _ _ h
   ·exact h.elim
  |rngS i=>
   simp only[ak]at h⊢
   split at h
   ·exact⟨h.1,hk _ _ h.2⟩
   ·exact h.elim
  |Vh=>
   simp only[ak]at h⊢
   split at h
   ·rename_i b
    cases c:M.box b with
    |none=>simp only[c]at h
    |some cs=>
     simp only[c]at h⊢
     split at h
     ·rename_i s pos U
      refine⟨h.1,?_⟩;have h2:=h.2
      split at h2
      ·rename_i u;rw[if_pos u];exact hk _ _ h2
      ·rename_i u;rw[if_neg u];exact hk _ _ h2
     ·exact h.elim
   ·exact h.elim
  |inv name=>
   simp only[ak]at h⊢
   split at h
   ·obtain⟨f,h1,h2,j⟩:=h
    exact⟨f,h1,h2,j.mono hk⟩
   ·exact h.elim
  |lG sz zs S=>
   simp only[ak]at h⊢
   split at h
   ·rename_i ds e
    try simp only[e]
    split at h
    ·rename_i xs o;(try simp only[o]);exact⟨h.1,h.2.1,hk _ _ h.2.2⟩
    ·exact h.elim
   ·exact h.elim
  |mkMap i=>
   simp only[ak]at h⊢
   split at h
   ·exact⟨h.1,hk _ _ h.2⟩
   ·exact h.elim
  |RY G=>
   simp only[ak]at h⊢
   split at h
   ·rename_i b k v
    cases c:M.box b with
    |none=>simp only[c]at h
    |some cs=>
     simp only[c]at h⊢
     split at h
     ·rename_i l T
      refine⟨h.1,?_⟩;have h2:=h.2
      split at h2
      ·rename_i V j I;exact hk _ _ h2
      ·exact h2.elim
     ·exact h.elim
   ·exact h.elim
  |FD ok G z=>
   simp only[ak]at h⊢
   split at h
   ·split at h
    ·rename_i h1 h2;(try simp only[h1,h2]);exact hk _ _ h
    ·exact h.elim
   ·rename_i b k
    cases c:M.box b with
    |none=>simp only[c]at h
    |some cs=>
     simp only[c]at h⊢
     split at h
     ·split at h
      ·exact hk _ _ h
      ·exact h.elim
     ·exact h.elim
   ·exact h.elim
  |Yd G=>
   simp only[ak]at h⊢
   split at h
   ·rename_i b k v
    cases c:M.box b with
    |none=>simp only[c]at h
    |some cs=>
     simp only[c]at h⊢
     split at h
     ·refine⟨h.1,?_⟩
      have h2:=h.2
      split at h2
      ·exact hk _ _ h2
      ·exact h2.elim
     ·exact h.elim
   ·exact h.elim
  |Yb G=>
   simp only[ak]at h⊢
   split at h
   ·rename_i b k
    cases c:M.box b with
    |none=>simp only[c]at h
    |some cs=>
     simp only[c]at h⊢
     split at h
     ·refine⟨h.1,?_⟩
      have h2:=h.2
      split at h2
      ·exact hk _ _ h2
      ·exact h2.elim
     ·exact h.elim
   ·exact h.elim
  |isNil neq=>
   simp only[ak]at h⊢
   split at h
   ·exact⟨fun g=>hk _ _ (h.1 g),fun g b=>hk _ _ (h.2 g b)⟩
   ·exact h.elim
  |panic=>exact h
  | _=>simp[kd]at F
def Om {a:St->Prop}(hk:∀s,K s->a s)(h:dO C base o K KP s):dO C base o a KP s:=by
 rw[dU]at h⊢;cases c:FC s.env o.g with
 |none=>rw[c]at h;exact h
 |some b=>
  rw[c]at h;cases b with
  |false=>exact hk _ h
  |true=>exact⟨h.1,BN (fun v M' hh=>hk _ hh) h.2⟩
def ahc {a:St}(h:∀t,look s.env t=look a.env t)(args:List Opd):args.map s.val=args.map a.val:=by
 refine bo fun x _=> ?_
 cases x with
 |c d=>rfl
 |t n=>exact h n
def Ir {a:List (Nat×PV)}(h:∀t,look env t=look a t)(dst:Option Nat)(v:PV)(t:Nat):look (put env dst v) t=look (put a dst v) t:=by
 cases dst with
 |none=>exact h t
 |some d=>simp only[put,look,h]
def abD (d:Ext K):Ext (dO C base o K KP):=by
 intro s j c i h;rw[dU]at h⊢;have f:FC j.env o.g=FC s.env o.g:=by
  cases o.g with
  |none=>rfl
  |some q=>obtain⟨t,e⟩:=q;simp only[FC,c]
 rw[f,<-ahc c,<-i];cases a:FC s.env o.g with
 |none=>rw[a]at h;exact h
 |some b=>
  rw[a]at h;cases b with
  |false=>exact d.use h (Ir c _ _) rfl
  |true=>exact⟨h.1,BN (K:=fun v M=>K ⟨put s.env o.dst v,M⟩) (fun v M' hh=>d.use hh (Ir c _ _) rfl) h.2⟩
def acP {fl:Nat}(h:op= .mov\/(fl=1/\∃ag n,op= .load ag n))(hf:vK base fl args):∃(c:Prop) (v:PV),∀M K KP,ak C base op args M K KP↔c/\K v M:=by
 rcases h with rfl|⟨rfl,ag,n,rfl⟩
 ·rcases args with _|⟨x,_|⟨y,l⟩⟩
  ·exact⟨False, .dead,fun M K KP=>by simp[ak]⟩
  ·exact⟨True,x,fun M K KP=>by simp[ak]⟩
  ·exact⟨False, .dead,fun M K KP=>by simp[ak]⟩
 ·obtain⟨ds,rfl⟩:=jV (args:=args) hf
  rcases ds with _|⟨x,_|⟨y,l⟩⟩
  ·exact⟨False, .dead,fun M K KP=>by simp[ak]⟩
  ·cases x with
   |aV cs=>exact⟨n<=cs.length,_,fun M K KP=>by simp only[W,ab,ak,bP];exact Y⟩
   | _=>exact⟨False, .dead,fun M K KP=>by simp[ak,bP]⟩
  ·exact⟨False, .dead,fun M K KP=>by simp[ak]⟩
def aeZ {a oi:PO}{f:FuncId}(j:a.op= .Hz f)(u:oi.op= .mov\/(oi.fl=1/\∃ag n,oi.op= .load ag n))(t:qP a oi=true){K:St->Prop}{KP:DV->Mem->Prop}(y:Ext K)(s:St)
  (h:dO C base a (fun E=>dO C base oi K KP E) KP s):dO C base oi (fun E=>dO C base a K KP E) KP s:=by
 simp only[qP,H]at t;obtain⟨l,F⟩:=t;have i:∀d,a.dst=some d->looks oi d=false:=by intro d hd;rw[hd]at l;simp at l;exact l.1
 have hd:∀d,a.dst=some d->oi.dst≠some d:=by intro d hd;rw[hd]at l;simp at l;exact l.2
 have r:∀d,oi.dst=some d->looks a d=false:=by intro d hd;rw[hd]at F;simpa using F
 obtain⟨env,M⟩:=s;rw[dU]at h⊢;simp only at h⊢;cases m:FC env a.g with
 |none=>rw[m]at h;exact h.elim
 |some J=>
  rw[m]at h;cases J with
  |false=>
   simp only at h;rw[dU]at h;simp only[(dD (M:=M) (M':=M) i).1,(dD (M:=M) (M':=M) i).2]at h;cases e:FC env oi.g with
   |none=>rw[e]at h;exact h.elim
   |some z=>
    rw[e]at h;cases z with
    |false=>
     simp only at h⊢;rw[dU];simp only[(dD (M:=M) (M':=M) r).2,m];exact y.use h (fQ hd) rfl
    |true=>
     simp only at h⊢;obtain⟨G,L⟩:=h;obtain⟨c,v,o⟩:=acP (C:=C) u G;obtain⟨r1,r2⟩:=(o _ _ _).1 L;refine⟨G,(o _ _ _).2 ⟨r1,?_⟩⟩;rw[dU];simp only[(dD (M:=M) (M':=M) r).2,m];exact y.use r2 (fQ hd) rfl
  |true=>
   simp only[j]at h;obtain⟨x,P,I,⟨q,N,B⟩,D⟩:=h;have b:dO C base oi K KP ⟨put env a.dst q,N⟩:=D q N B;rw[dU]at b;simp only[(dD (M:=M) (M':=N) i).1,(dD (M:=M) (M':=N) i).2]at b;cases e:FC env oi.g with
   |none=>rw[e]at b;exact b.elim
   |some z=>
    rw[e]at b;cases z with
    |false=>
     simp only;rw[dU];simp only[(dD (M:=M) (M':=M) r).1,(dD (M:=M) (M':=M) r).2,m,j];refine⟨x,P,I,⟨q,N,B⟩,fun p M' A=> ?_⟩;have k:dO C base oi K KP ⟨put env a.dst p,M'⟩:=D p M' A;rw[dU]at k;simp only[(dD (M:=M) (M':=M') i).2,e]at k;exact y.use k (fQ hd) rfl
    |true=>
     simp only at b⊢;obtain⟨w,b⟩:=b;obtain⟨c,v,o⟩:=acP (C:=C) u w;refine⟨w,(o _ _ _).2 ⟨((o _ _ _).1 b).1,?_⟩⟩;rw[dU];simp only[(dD (M:=M) (M':=M) r).1,(dD (M:=M) (M':=M) r).2,m,j];refine⟨x,P,I,⟨q,N,B⟩,fun p M' A=> ?_⟩;have k:dO C base oi K KP ⟨put env a.dst p,M'⟩:=D p M' A;rw[dU]at k;simp only[(dD (M:=M) (M':=M') i).1,(dD (M:=M) (M':=M') i).2,e]at k;exact y.use ((o _ _ _).1 k.2).2 (fQ hd) rfl
def ahD (q p:PO):Bool:=
 match q.op,p.op,q.args,p.args with
 | .load ag n, .Cb c d _,[.t a], .t b::_=>ag==c&&n==d&&a==b&&q.fl==0&&p.fl==0&&q.g.isNone&&p.g.isNone
 | .Cb ag n _, .load c d, .t a::_,[.t b]=>ag==c&&n==d&&a==b&&q.fl==0&&p.fl==0&&q.g.isNone&&p.g.isNone
 | .Hz _, .mov,_,_=>true
 | .Hz _, .load _ _,_,_=>p.fl==1
 | _,_,_,_=>false
def OD (q p:PO):Bool:=(kd q.op q.fl).swap (kd p.op p.fl)||ahD q p
def U6 {agg:Bool}{n:Nat}{x:PV}{b:PV}(h:bP agg n x M fun u=>v=u)(h':bP agg n x M fun u=>b=u):v=b:=by
 unfold bP at h h'
 split at h
 ·split at h
  ·rename_i a;simp only[a]at h';rw[h.2,h'.2]
  ·exact h.elim
 ·rw[h.2,h'.2]
 ·split at h
  ·rename_i a;simp only[a]at h';rw[h.2,h'.2]
  ·exact h.elim
 ·exact h.elim
def vk (a:o.g=none)(hf:o.fl=0):dO C base o K KP s↔ak C base o.op (o.args.map s.val) s.mem (fun v M=>K ⟨put s.env o.dst v,M⟩) KP:=by
 unfold dO;rw[a,hf];exact⟨fun h=>h.2,fun h=>⟨trivial,h⟩⟩
def ae0 {g oi:PO}(hk:OD g oi=true)(e:qP g oi=true){K:St->Prop}{KP:DV->Mem->Prop}(q:Ext K)(s:St)
  (h:dO C base g (fun B=>dO C base oi K KP B) KP s):dO C base oi (fun B=>dO C base g K KP B) KP s:=by
 simp only[OD,aE]at hk
 rcases hk with hk|hk
 ·exact ag6 hk e q s h
 simp only[qP,H]at e;obtain⟨c,u⟩:=e;have E:∀d,g.dst=some d->looks oi d=false:=by intro d hd;rw[hd]at c;simp at c;exact c.1
 have hd:∀d,g.dst=some d->oi.dst≠some d:=by intro d hd;rw[hd]at c;simp at c;exact c.2
 have D:∀d,oi.dst=some d->looks g d=false:=by intro d hd;rw[hd]at u;simpa using u
 obtain⟨env,M⟩:=s;unfold ahD at hk
 split at hk
 ·rename_i ag n z I f a b r h1 h2 o w
  simp only[H,beq_iff_eq,aM]at hk;obtain⟨⟨⟨⟨⟨⟨rfl,rfl⟩,rfl⟩,j⟩,k⟩,l⟩,m⟩:=hk;rw[vk l j]at h;rw[vk m k];simp only[h1,o,W,ab,ak]at h;obtain⟨v,x,i⟩:=jo.1 h;rw[vk m k]at i;simp only[(dD (M:=M) (M':=M) E).1]at i;simp only[h2,w,W,ak]at i⊢;obtain⟨L,F,J⟩:=jo.1 i;refine jo.2 ⟨L,F,SC.mono J fun p M' hh=>⟨hh.1,?_⟩⟩;rw[vk l j];simp only[(dD (M:=M) (M':=M') D).1];simp only[h1,o,W,ab,ak];obtain⟨G,r1,r2⟩:=jo.1 hh.1;have A:=U6 x F;refine jo.2 ⟨G,r1,q.use hh.2 (fun t=> ?_) rfl⟩;rw[r2,<-A];exact fQ hd t
 ·rename_i ag n f z I a r b h1 h2 o w
  simp only[H,beq_iff_eq,aM]at hk;obtain⟨⟨⟨⟨⟨⟨rfl,rfl⟩,rfl⟩,j⟩,k⟩,l⟩,m⟩:=hk;rw[vk l j]at h;rw[vk m k];simp only[h1,o,W,ak]at h;obtain⟨v,x,i⟩:=jo.1 h;simp only[h2,w,W,ab,ak];refine jo.2 ⟨v,x,?_⟩;rw[vk l j];simp only[(dD (M:=M) (M':=M) D).1];simp only[h1,o,W,ak];refine jo.2 ⟨v,x,SC.mono i fun p M' hh=>⟨hh.1,?_⟩⟩;have y:=hh.2;rw[vk m k]at y;simp only[(dD (M:=M) (M':=M') E).1]at y;simp only[h2,w,W,ab,ak]at y;obtain⟨G,r1,r2⟩:=jo.1 y;obtain⟨N,r3,r4⟩:=jo.1 hh.1;have A:=U6 r1 r3;refine q.use r2 (fun t=> ?_) rfl;rw[A,r4];exact fQ hd t
 ·rename_i f h1 h2
  exact aeZ h1 (.inl h2) (by simp only[qP,H];exact⟨c,u⟩) q ⟨env,M⟩ h
 ·rename_i f ag n h1 h2
  exact aeZ h1 (.inr ⟨by simpa using hk,ag,n,h2⟩) (by simp only[qP,H];exact⟨c,u⟩) q ⟨env,M⟩ h
 ·cases hk
def O5 (C:Ctx)(base:Nat)(ps:List PO):List Nat->(St->Prop)->(DV->Mem->Prop)->St->Prop
 | [],K,_,s=>K s
 |i::l,K,KP,s=>match ps[i]? with
  |some p=>dO C base p (fun a=>O5 C base ps l K KP a) KP s
  |none=>False
def VK {ps:List PO}{K:St->Prop}{KP:DV->Mem->Prop}(a:Ext K):∀l,Ext (O5 C base ps l K KP)
 | []=>a
 |i::l=>by
  intro s d b c h;simp only[O5]at h⊢
  split at h
  ·rename_i p e;exact abD (VK a l) s d b c h
  ·exact h.elim
def Oj {ps:List PO}{i:Nat}{p:PO}(d:ps[i]?=some p){K:St->Prop}{KP:DV->Mem->Prop}(b:Ext K){l2:List Nat}:∀{l1:List Nat} (_:∀j∈l1,∀q,ps[j]?=some q->OD q p=true/\qP q p=true) {s:St},
  O5 C base ps (l1++i::l2) K KP s->dO C base p (fun f=>O5 C base ps (l1++l2) K KP f) KP s
 | [],_,s,h=>by simpa[O5,d]using h
 |j::l1,c,s,h=>by
  simp only[br,O5]at h⊢
  split at h
  ·rename_i q e
   obtain⟨g,k⟩:=c j (by simp) q e
   try simp only[e]
   exact ae0 g k (VK b _) s (Om (fun f l=>Oj d b (fun m a=>c m (by simp[a])) l) h)
  ·exact h.elim
def Ol {ps:List PO}{K:St->Prop}{KP:DV->Mem->Prop}:∀(n k:Nat) (s:St),k+n=ps.length->uq C base (ps.drop k) K KP s->O5 C base ps (bk k n) K KP s
 |0,k,s,c,h=>by
  rw[List.drop_eq_nil_of_le (by omega)]at h;exact h
 |n+1,k,s,c,h=>by
  have a:k<ps.length:=by omega
  rw[List.drop_eq_getElem_cons a]at h;simp only[a6,O5,ao a];exact Om (fun d b=>Ol n (k+1) d (by omega) b) h
end
def rJ (o:Oper):List Nat:=(o.after.toList.filter (Region.binds .any)).map (·.on)
def JE (a:List Nat)(ps:List Nat):Nat:=ps.foldl (fun m k=>m|||(1<<<k)|||a.getD k 0) 0
def Xh:List (List Nat)->List Nat->List Nat
 | [],a=>a
 |c::b,a=>Xh b (a++ [JE a c])
def Zn (a:List Nat)(ps:List PO):Bool:=
 (bq ps.length).all fun i=>(bq i).all fun j=>(a.getD i 0).testBit j||match ps[j]?,ps[i]? with
  |some q,some p=>OD q p&&qP q p
  | _,_=>false
def RZ (ops:Array Oper)(ps:List PO):Bool:=
 let a:=ops.toList.map rJ
 (a.zipIdx.all fun(l,i)=>l.all fun k=>decide (k<i))&&Zn (Xh a []) ps
inductive Rch (pre:List (List Nat)):Nat->Nat->Prop
 |one {j i:Nat} {l:List Nat} (hl:pre[i]?=some l) (h:j∈l):Rch pre j i
 |step {j k i:Nat} {l:List Nat} (hl:pre[i]?=some l) (h:k∈l) (t:Rch pre j k):Rch pre j i
def U9 {pre:List (List Nat)}{b:List Nat}{i:Nat}{l:List Nat}(hl:pre[i]?=some l)(c:∀k j,(b.getD k 0).testBit j=true->Rch pre j k){j:Nat}(h:(JE b l).testBit j=true):Rch pre j i:=by
 have n:∀(d:List Nat) (m:Nat),(∀k∈d,k∈l)->(m.testBit j=true->Rch pre j i)->(d.foldl (fun m k=>m|||(1<<<k)|||b.getD k 0) m).testBit j=true->Rch pre j i:=by
  intro d
  induction d with
  |nil=>intro m _ g h;exact g h
  |cons k d o=>
   intro m e g h;refine o _ (fun p f=>e p (by simp[f])) (fun a=> ?_) h;simp only[Nat.testBit_or,aE]at a
   rcases a with(a|a)|a
   ·exact g a
   ·rw[Nat.one_shiftLeft,Nat.testBit_two_pow]at a
    simp only[decide_eq_true_eq]at a;subst a;exact .one hl (e _ (by simp))
   ·exact .step hl (e k (by simp)) (c k j a)
 exact n l 0 (fun _ h=>h) (fun h=>by simp at h) h
def Ku {pre:List (List Nat)}:∀(rest:List (List Nat)) (a:List Nat),(∀j,rest[j]?=pre[a.length+j]?)->(∀k j,(a.getD k 0).testBit j=true->Rch pre j k)->
  ∀k j,((Xh rest a).getD k 0).testBit j=true->Rch pre j k
 | [],a,_,h=>h
 |l::rest,a,d,h=>by
  refine Ku rest _ (fun j=> ?_) fun k j b=> ?_
  ·have:=d (j+1)
   simp only[List.getElem?_cons_succ]at this;rw[this];simp only[List.length_append,List.length_singleton];congr 1;omega
  ·by_cases e:k<a.length
   ·have:(a++ [JE a l]).getD k 0=a.getD k 0:=by simp[bO,List.getElem?_append_left e]
    rw[this]at b;exact h k j b
   ·by_cases c:k=a.length
    ·subst c
     have:(a++ [JE a l]).getD a.length 0=JE a l:=by simp[bO]
     rw[this]at b;exact U9 (by have:=d 0;simpa using this.symm) h b
    ·have:(a++ [JE a l]).getD k 0=0:=by
      rw[bO,List.getElem?_eq_none (by simp;omega)];rfl
     rw[this]at b;simp at b
section
variable {C:Ctx}{X:Nat->Prop}{w:World}{E:Emb}{lo:Lo}{ro:Option Nat}
structure Done (ops:Array Oper) (listed:Array Bool) (rest:List Nat):Prop where
 size:listed.size=ops.size
 mem:∀j,j∈rest↔(j<ops.size/\listed.getD j true=false)
 sorted:rest.Pairwise (·<·)
 closed:∀j o,ops[j]?=some o->listed.getD j false=true->∀k∈rJ o,listed.getD k false=true
def JF {o:Oper}{k:Nat}:k∈rJ o↔∃e∈o.after,Region.binds .any e=true/\e.on=k:=by
 simp[rJ,and_assoc]
variable{ops:Array Oper}
def Yp {listed:Array Bool}{rest:List Nat}(hd:Done ops listed rest){j i:Nat}(h:Rch (ops.toList.map rJ) j i):
  (∀o,ops[i]?=some o->∀k∈rJ o,listed.getD k false=true)->listed.getD j false=true:=by
 induction h with
 |one a h=>
  intro b;simp only[ax,ae,aq]at a;obtain⟨o,c,rfl⟩:=a;exact b o c _ h
 |step a h t f=>
  intro b;simp only[ax,ae,aq]at a;obtain⟨o,c,rfl⟩:=a;have e:=b o c _ h;exact f fun g d=>hd.closed _ g d e
def ZO {n:Nat}(ap:∀q,lo.fx=some q->∀o∈ops,o.dst≠some q.1){ps:List PO}(aM:Iz C.P n ops ops.toList ps=true)(N:RZ ops ps=true){base:Nat}{K:St->Prop}{KP:DV->Mem->Prop}{Q:Exit->Act->World->Prop}{w₀:World}{M₀:Mem}{E₀:Emb}
  (R:Ext K)
  (hK:∀s' t w' E',K s'->InS C X lo n s' t w' E'->From w₀ M₀ E₀ w' s'.mem E'->Q .normal t w')
  (ac:∀d M' t w' E' v,KP d M'->Sim C X w' M' E'->From w₀ M₀ E₀ w' M' E'->bF w' (away X M' E') v d->okD lo X t.defers w'->(∀q,lo.fx=some q->t.eval (.tmp q.1)=q.2)->Q (.panic [{v,recovered:=false}]) t w'):
  ∀(f:Nat) (rest:List Nat) (listed:Array Bool),f=rest.length->Done ops listed rest->∀(s:St) (a:Act) (w:World) (E:Emb),InS C X lo n s a w E->From w₀ M₀ E₀ w s.mem E->O5 C base ps rest K KP s->
   wpAnyIn (RF ro) 0 C.P .any ops Q f listed a w:=by
 obtain⟨Y,T⟩:=EW aM;simp only[Array.length_toList]at Y;simp only[RZ,H]at N;obtain⟨G,adu⟩:=N;have az:∀i o,ops[i]?=some o->∀k∈rJ o,k<i:=by
  intro i o A k J;simp only[aD]at G;have:=G (rJ o,i) (by
   rw[List.mem_zipIdx_iff_getElem?];simp[A])
  simp only[aD,decide_eq_true_eq]at this;exact this k J
 have akX:=Ku (pre:=ops.toList.map rJ) (ops.toList.map rJ) [] (fun j=>by simp) (fun k j h=>by simp at h);have akb:∀i j q p,j<i->ps[j]?=some q->ps[i]?=some p->Rch (ops.toList.map rJ) j i\/(OD q p=true/\qP q p=true):=by
  intro i j q p c hq hp;simp only[Zn,aD,List.mem_range,aE]at adu;have hi:i<ps.length:=(ai.1 hp).1
  rcases adu i hi j c with h|h
  ·exact .inl (akX i j h)
  ·rw[hq,hp]at h
   simp only[H]at h;exact .inr h
 intro f
 induction f with
 |zero=>
  intro rest listed hf hd s a w E h u hr;have:rest=[]:=List.length_eq_zero_iff.1 hf.symm;subst this;refine⟨?_,hK s a w E hr h u⟩;cases a0:Region.ready .any ops listed with
  |nil=>rfl
  |cons i l=>
   have F:i∈Region.ready .any ops listed:=by rw[a0];simp
   rw[mem_ready]at F;obtain⟨h0,o,A,_⟩:=F;have:=(hd.mem i).2 ⟨(aL.1 A).1,h0⟩;cases this
 |succ f ih=>
  intro rest listed hf hd s a w E h u hr;refine⟨fun Z=> ?_,fun i hi=> ?_⟩
  ·exfalso
   cases rest with
   |nil=>simp at hf
   |cons i l=>
    obtain⟨z,ax⟩:=(hd.mem i).1 (by simp);have:i∈Region.ready .any ops listed:=by
     rw[mem_ready];refine⟨ax,ops[i],an z,fun e O M=> ?_⟩;have J:=az i ops[i] (an z) e.on (JF.2 ⟨e,O,M,rfl⟩);cases W:listed.getD e.on false with
     |true=>rfl
     |false=>
      have r:e.on<listed.size:=by rw[hd.size];omega
      have I:listed.getD e.on true=false:=by
       simp only[S,an r,a7]at W⊢;exact W
      have m:=(hd.mem e.on).2 ⟨by omega,I⟩
      rcases aR.1 m with a2|m
      ·omega
      ·have:=(am.1 hd.sorted).1 _ m
       omega
    rw[Z]at this;cases this
  ·obtain⟨aw,o,A,B⟩:=mem_ready.1 hi
   have z:i<ops.size:=(aL.1 A).1;have m:=(hd.mem i).2 ⟨z,aw⟩;obtain⟨l1,l2,rfl⟩:=List.append_of_mem m;have L:i<ps.length:=by omega
   obtain⟨o',ab,alf⟩:=T i ps[i] (ao L);rw[aq,A]at ab;cases ab;have b:=bh.1 hd.sorted;have aiM:=Oj (C:=C) (base:=base) (ao L) R (l1:=l1) (l2:=l2) (fun j D q hq=>by
    have c:j<i:=b.2.2 j D i (by simp)
    rcases akb i j q ps[i] c hq (ao L)with hr|hc
    ·exfalso
     have W:=Yp hd hr fun o2 g k J=>by
      rw[A]at g;cases g;obtain⟨e,O,M,rfl⟩:=JF.1 J;exact B e O M
     have U:=(hd.mem j).1 (by simp[D]);have r:j<listed.size:=by rw[hd.size];exact U.1
     have I:=U.2;simp only[S,an r,a7]at W I;rw[W]at I;cases I
    ·exact hc) hr
   refine Vq ap A alf h aiM (fun s' t w' E' a1 av ae=> ?_) (fun d M' t w' E' v h1 h2 I h4 h5=>ac d M' t w' E' v h1 h2 (u.trans I) h4 h5);refine ih (l1++l2) (listed.setIfInBounds i true) (by simp at hf⊢;omega) ?_ s' t w' E' av (u.trans ae) a1;have a3:=hd.sorted;refine⟨by simp[hd.size],fun j=> ?_,?_,fun j o2 g V k J=> ?_⟩
   ·by_cases c:j=i
    ·subst c
     constructor
     ·intro D
      exfalso
      rcases bA.1 D with D|D
      ·exact absurd (b.2.2 j D j (by simp)) (by omega)
      ·exact absurd ((am.1 b.2.1).1 j D) (by omega)
     ·rintro⟨h1,h2⟩
      exfalso
      have r:j<listed.size:=by rw[hd.size];exact h1
      simp[r]at h2
    ·rw[getD_set_ne true (Ne.symm c)]
     have:=hd.mem j;simp only[bA,aR,c,false_or]at this⊢;exact this
   ·refine bh.2 ⟨b.1,(am.1 b.2.1).2,fun x hx y hy=>b.2.2 x hx y (by simp[hy])⟩
   ·by_cases c:j=i
    ·subst c
     rw[A]at g;cases g;obtain⟨e,O,M,rfl⟩:=JF.1 J;exact getD_set_true (B e O M)
    ·rw[getD_set_ne false (Ne.symm c)]at V
     exact getD_set_true (hd.closed j o2 g V k J)
def Xl {n:Nat}(l:∀q,lo.fx=some q->∀o∈ops,o.dst≠some q.1){ps:List PO}(u:C.P.follows .mixedOrders=true)(g:Iz C.P n ops ops.toList ps=true)(k:RZ ops ps=true){base id:Nat}{K:St->Prop}{KP:DV->Mem->Prop}{Q:Exit->Act->World->Prop}
  {s:St}{a:Act}{w₀:World}{M₀:Mem}{E₀:Emb}(f:Ext K)(h:InS C X lo n s a w E)(hf:From w₀ M₀ E₀ w s.mem E)(x:uq C base ps K KP s)
  (t:∀p e w' E',K p->InS C X lo n p e w' E'->From w₀ M₀ E₀ w' p.mem E'->Q .normal e w')
  (i:∀d M' e w' E' v,KP d M'->Sim C X w' M' E'->From w₀ M₀ E₀ w' M' E'->bF w' (away X M' E') v d->okD lo X e.defers w'->(∀q,lo.fx=some q->e.eval (.tmp q.1)=q.2)->Q (.panic [{v,recovered:=false}]) e w'):
  (Code.region id ops true).wpIn (RF ro) 0 C.P Q a w:=by
 refine wpIn_region_any u ?_;have c:ops.size=ps.length:=by simpa using(EW g).1
 have r:Later w {w with drawn:=w.drawn+1}:=⟨rfl,rfl,rfl,ap _,fun _ _=>rfl⟩
 have m:=Ol (C:=C) (base:=base) (ps:=ps) (K:=K) (KP:=KP) ps.length 0 s (by simp) (by simpa using x);refine ZO (C:=C) (X:=X) l g k f t i ops.size (bk 0 ps.length) (aw ops.size false) (by simp[c]) ?_ s a _ E (h.later r) (hf.trans (r.from s.mem E)) m;refine⟨by simp,fun j=> ?_,?_,fun j o _ b=> ?_⟩
 ·simp only[List.mem_range'_1,bz,true_and,bX,<-c]
  constructor
  ·intro b;exact⟨b,by simp[b]⟩
  ·exact fun b=>b.1
 ·exact List.pairwise_lt_range' ..
 ·exfalso
  simp[Array.getElem?_replicate]at b
  split at b<;>simp at b
end
def wpB (B:FuncId->Prop)(F:Fence)(n:Nat)(P:Program)(c:Code)(Q:Exit->Act->World->Prop)(a:Act)(w:World):Prop:=
 ∀(b:Frame) (k:List Item) (cs:List Frame),b.roundOf=F.round->F.fn b.fn->B b.fn->F.room (cs.length+1+n)->
  ∃e d w',Q e d w'/\ArrivesIn (Machine.fenced P F) P (lone (b.atR a (.code c::k)) cs w) b k cs e d w'
section
variable {B:FuncId->Prop}{F:Fence}{n:Nat}{P:Program}{Q:Exit->Act->World->Prop}{a:Act}{w:World}
variable{c:Code}
def EH (h:c.wpIn F n P Q a w):wpB B F n P c Q a w:=fun b k cs d e _ f=>h b k cs d e f
def ahg (h:wpB (fun _=>True) F n P c Q a w):c.wpIn F n P Q a w:=fun b k cs d e f=>h b k cs d e trivial f
def vG {f:Exit->Act->World->Prop}(h:wpB B F n P c Q a w)(l:∀e a w,Q e a w->f e a w):wpB B F n P c f a w:=
 fun b k cs d j i m=>let⟨e,g,w',q,r⟩:=h b k cs d j i m;⟨e,g,w',l _ _ _ q,r⟩
variable{x y:Code}
def ahh (h:wpB B F n P x (Exit.then (wpB B F n P y Q) Q) a w):wpB B F n P (Code.seq x y) Q a w:=by
 intro b k cs j o r q;have f:(lone (b.atR a (.code (.seq x y)::k)) cs w).fenced P F:=fenced_calm o q rfl;obtain⟨e,i,m,g,c⟩:=h b (.code y::k) cs j o r q;cases e with
 |normal=>
  obtain⟨t,s,u,p,d⟩:=g b k cs j o r q;exact⟨t,s,u,p, .of_steps (.head f stepR_seq c) d⟩
 |exit id=>exact⟨_,i,m,g, .of_steps (.one f stepR_seq) (.pass (x:= .code y) rfl (fun _ _=> .inl (by simp)) c)⟩
 |goto l=>exact⟨_,i,m,g, .of_steps (.one f stepR_seq) (.pass (x:= .code y) rfl (fun _ _=> .inl (by simp)) c)⟩
 |ret=>exact⟨_,i,m,g, .of_steps (.one f stepR_seq) (.pass (x:= .code y) rfl (fun _ _=> .inl (by simp)) c)⟩
 |panic v=>exact⟨_,i,m,g, .of_steps (.one f stepR_seq) (.pass (x:= .code y) rfl (fun _ _=> .inl (by simp)) c)⟩
 |outgrown=>exact⟨_,i,m,g, .of_steps (.one f stepR_seq) (.pass (x:= .code y) rfl (fun _ _=> .inl (by simp)) c)⟩
variable{t:Bool}
def Ws {c:Operand}(hc:a.eval c= .bool t)(h:wpB B F n P (if t then x else y) Q a w):wpB B F n P (Code.cond c x y) Q a w:=
 fun b k cs d f j g=>let⟨e,i,w',q,r⟩:=h b k cs d f j g;⟨e,i,w',q, .of_steps (.one (fenced_calm f g rfl) (stepR_cond hc)) r⟩
def OI {c:Operand}(hc:a.eval c= .bool t)(b:t=true->wpB B F n P x Q a w)
  (hf:t=false->wpB B F n P y Q a w):wpB B F n P (Code.cond c x y) Q a w:=by
 cases t
 ·exact Ws hc (hf rfl)
 ·exact Ws hc (b rfl)
def abV {id:Nat}(h:wpB B F n P c (Exit.inBlock id Q) a w):wpB B F n P (Code.block id c) Q a w:=by
 intro b k cs t r x s;have g:(lone (b.atR a (.code (.block id c)::k)) cs w).fenced P F:=fenced_calm r s rfl;obtain⟨e,j,p,i,d⟩:=h b (.inBlock id::k) cs t r x s;cases e with
 |normal=>exact⟨.normal,j,p,i, .head g stepR_block (StepsIn.trans d (.one (fenced_calm r s rfl) stepR_inBlock))⟩
 |exit f=>
  by_cases hid:f=id
  ·simp only[Exit.inBlock,hid,if_true]at i
   exact⟨.normal,j,p,i, .head g stepR_block (d.1 k (by simp[exitTo,hid]))⟩
  ·simp only[Exit.inBlock,hid,if_false]at i
   have this:(id==f)=false:=by simp;exact fun h=>hid h.symm
   have q:exitTo f (.inBlock id::k)=exitTo f k:=by simp[exitTo,this]
   exact⟨.exit f,j,p,i,fun u m=> .head g stepR_block (d.1 u (by rw[q];exact m)),
    fun o m=>let⟨v,h1,h2⟩:=d.2 o (by rw[q];exact m);⟨v,h1, .head g stepR_block h2⟩⟩
 |goto l=>
  have q:gotoIn l (.inBlock id::k)=gotoIn l k:=by simp[gotoIn]
  exact⟨_,j,p,i,fun u m=> .head g stepR_block (d.1 u (by rw[q];exact m)),
   fun o m=>let⟨v,h1,h2⟩:=d.2 o (by rw[q];exact m);⟨v,h1, .head g stepR_block h2⟩⟩
 |ret=>exact⟨_,j,p,i, .of_steps (.one g stepR_block) d⟩
 |panic y=>exact⟨_,j,p,i, .of_steps (.one g stepR_block) d⟩
 |outgrown=>exact⟨_,j,p,i, .of_steps (.one g stepR_block) d⟩
def afb (I:Nat->Act->World->Prop)(G:Nat)(D:I G a w)
  (round:∀j a w,I j a w->wpB B F n P c (Exit.then (fun h w'=>∃o,o<j/\I o h w') Q) a w):wpB B F n P (Code.loop c) Q a w:=by
 intro b k cs u q A t;have v:∀j a w,I j a w->
   ∃e h w',Q e h w'/\ArrivesIn (Machine.fenced P F) P (lone (b.atR a (.code c:: .inLoop c::k)) cs w) b k cs e h w':=by
  intro j
  induction j using Nat.strongRecOn with
  | _ j E=>
   intro a w C;obtain⟨e,i,m,f,d⟩:=round j a w C b (.inLoop c::k) cs u q A t;cases e with
   |normal=>
    obtain⟨o,r,p⟩:=f;obtain⟨z,y,H,s,g⟩:=E o r i m p;exact⟨z,y,H,s, .of_steps (StepsIn.trans d (.one (fenced_calm q t rfl) stepR_inLoop)) g⟩
   |exit id=>exact⟨_,i,m,f, .pass (x:= .inLoop c) rfl (fun _ _=> .inl (by simp)) d⟩
   |goto l=>exact⟨_,i,m,f, .pass (x:= .inLoop c) rfl (fun _ _=> .inl (by simp)) d⟩
   |ret=>exact⟨_,i,m,f, .pass (x:= .inLoop c) rfl (fun _ _=> .inl (by simp)) d⟩
   |panic J=>exact⟨_,i,m,f, .pass (x:= .inLoop c) rfl (fun _ _=> .inl (by simp)) d⟩
   |outgrown=>exact⟨_,i,m,f, .pass (x:= .inLoop c) rfl (fun _ _=> .inl (by simp)) d⟩
 obtain⟨e,h,w',f,d⟩:=v _ a w D;exact⟨e,h,w',f, .of_steps (.one (fenced_calm q t rfl) stepR_loop) d⟩
variable{b:Frame}{k:List Item}
def nK {cs:List Frame}:step P (lone (b.atR a (.code (.scope c)::k)) cs w)= .next (lone (b.atR a (.code c:: .inScope c::k)) cs w):=
 step_lone_go (by simp[stepG,stepG.exec,Frame.atR])
def OC {cs:List Frame}:step P (lone (b.atR a (.inScope c::k)) cs w)= .next (lone (b.atR a k) cs w):=
 step_lone_go (by simp[stepG,stepG.exec,Frame.atR])
def abW (h:wpB B F n P c (Exit.noGoto Q) a w):wpB B F n P (Code.scope c) Q a w:=by
 intro b k cs r m t p;have f:(lone (b.atR a (.code (.scope c)::k)) cs w).fenced P F:=fenced_calm m p rfl;obtain⟨e,i,j,g,d⟩:=h b (.inScope c::k) cs r m t p;cases e with
 |normal=>exact⟨.normal,i,j,g, .head f nK (StepsIn.trans d (.one (fenced_calm m p rfl) OC))⟩
 |exit id=>
  have s:exitTo id (.inScope c::k)=exitTo id k:=by simp[exitTo]
  exact⟨.exit id,i,j,g,fun u o=> .head f nK (d.1 u (by rw[s];exact o)),
   fun q o=>let⟨v,h1,h2⟩:=d.2 q (by rw[s];exact o);⟨v,h1, .head f nK h2⟩⟩
 |goto l=>exact g.elim
 |ret=>exact⟨_,i,j,g, .of_steps (.one f nK) d⟩
 |panic x=>exact⟨_,i,j,g, .of_steps (.one f nK) d⟩
 |outgrown=>exact⟨_,i,j,g, .of_steps (.one f nK) d⟩
def aeg (B:FuncId->Prop)(F:Fence)(n:Nat)(P:Program)(l:Nat)(Q:Exit->Act->World->Prop)(b:Act):Ending->World->Prop
 | .returned _,d=>∃a e,(Instr.endLoop l).run P d= .ok a e/\
   (match a with
   |none=>Q .normal b e
   |some c=>wpB B F n P c Q b e)
 | .panicked chain,d=>Q (.panic chain) b d
 | .outgrown,_=>LetsOut Q
variable{assign body:Code}
def O8 {g:Operand}{ps:Array Tmp}
  (h:∀fn,F.fn fn->B fn->∃(l:Nat) (mark:List Deferred) (O:World) (d:Deferred) (q:World) (f:FuncId) (args:Array Value) (R:World),
   (Instr.enterLoop fn a.tmps ps assign body F.round).run P w= .ok (l,mark) O/\
   (resolve a.eval (rangeCall g l) 0).run P O= .ok d q/\
   (∀G,Target.leads P q d.target d.args=some G->F.fn G)/\
   (invoke d.target d.args).run P q= .ok (.enter f args) R/\
   (F.depth.isSome=true->1<=n)/\
   CallsIn F (n - 1) P f args R (aeg B F n P l Q {a with defers:=mark++a.defers})):
  wpB B F n P (Code.rangeFunc g ps assign body) Q a w:=by
 intro b k cs E H U I;obtain⟨l,mark,O,d,q,f,args,R,L,r,u,D,hn,V,t⟩:=h b.fn H U;rw[<-E]at L;have T:(lone (b.atR a (.code (.rangeFunc g ps assign body)::k)) cs w).fenced P F:=by
  refine fenced_lone (.inl H) (fun G A=>u G ?_) (Fence.room_le I (by omega));have z:=Frame.eval_atR b a (.code (.rangeFunc g ps assign body)::k);simp only[Frame.atR]at z;simp only[Frame.about,Frame.atR,L,z,r]at A;exact A
 have j:=stepR_rangeFunc (P:=P) (b:=b) (a:=a) (k:=k) (cs:=cs) (w:=w) L r D;have o:F.room ((b.atR {a with defers:=mark++a.defers} (.inRangeFunc l::k)::cs).length+1+(n - 1)):=Fence.room_enter I hn;obtain⟨e,S,fr,K,m,C,i⟩:=t (b.atR {a with defers:=mark++a.defers} (.inRangeFunc l::k)::cs) o;cases e with
 |outgrown=>
  obtain⟨Y,w₀,N⟩:=K;exact⟨.outgrown,Y,w₀,N, .inr (Outgrown.of_steps (.one j) m)⟩
 |returned v=>
  have M:(lone fr (b.atR {a with defers:=mark++a.defers} (.inRangeFunc l::k)::cs) S).fenced P F:=fenced_leaving (C▸V) o i;obtain⟨s,X,y,W⟩:=K;have p:StepsIn (Machine.fenced P F) P (lone (b.atR a (.code (.rangeFunc g ps assign body)::k)) cs w) (lone (b.atR {a with defers:=mark++a.defers} ((s.map Item.code).toList++k)) cs X):=by
   refine .head T j (StepsIn.trans m (.head M ?_ (.one (fenced_calm (fr:=b.atR {a with defers:=mark++a.defers} (.endRangeFunc l::k)) H I rfl) (stepR_endRangeFunc y))));rw[<-finish_atR_inRangeFunc l v];exact step_leave_returned i
  cases s with
  |none=>exact⟨.normal,_,X,W,p⟩
  |some c=>
   obtain⟨Z,J,w₅,N,x⟩:=W b k cs E H U I;exact⟨Z,J,w₅,N, .of_steps p x⟩
 |panicked chain=>
  have M:(lone fr (b.atR {a with defers:=mark++a.defers} (.inRangeFunc l::k)::cs) S).fenced P F:=fenced_leaving (C▸V) o i;refine⟨.panic chain,_,S,K, .inRangeFunc l::k, .head T j (StepsIn.trans m (.one M ?_))⟩;rw[<-Frame.raise_atR];exact step_leave_panicked i
def roundEnd (P:Program)(l:Nat)(R:Ending->World->Prop):Exit->Act->World->Prop
 | .normal,_,w=>∃v w',(Instr.endRound l none).run P w= .ok v w'/\R (.returned v) w'
 | .ret,_,w=>∃v w',(Instr.endRound l (some .ret)).run P w= .ok v w'/\R (.returned v) w'
 | .exit id,_,w=>∃v w',(Instr.endRound l (some (.exit id))).run P w= .ok v w'/\R (.returned v) w'
 | .panic chain,a,w=>a.defers=[]/\R (.panicked chain) w
 | _,_,_=>False
variable{f:FuncId}{R:Ending->World->Prop}
def Og {l:Nat}{tmps:Array Value}(H:F.fn f)(G:B f)(hf:∃fn,P.funcs[f]?=some fn)
  (h:wpB B (F.inRound l) n P assign (Exit.then (fun q E=>∃z,(Instr.beginRound l).run P E= .ok () z/\wpB B (F.inRound l) n P body (roundEnd P l R) q z) (fun _ _ _=>False))
   {tmps:=tmps,defers:=[]} w):
  RoundIn F n P l f tmps assign body w R:=by
 refine⟨H,fun c cs M=> ?_⟩
 let b:Frame:={(default:Frame)with fn:=f,kind:= .normal,roundOf:=some l}
 have A:Frame.round l f tmps assign body .normal=b.atR {tmps:=tmps,defers:=[]} [.code assign, .beginRound, .code body]:=by
  simp[Frame.round,Frame.atR,b]
 have j:(F.inRound l).room ((c::cs).length+1+n):=M;have i:(F.inRound l).fn b.fn:=H;obtain⟨e,q,E,p,d⟩:=h b [.beginRound, .code body] (c::cs) rfl i G j;rw[<-A]at d;cases e with
 |normal=>
  obtain⟨z,C,o⟩:=p;have y:StepsIn (Machine.fenced P (F.inRound l)) P (lone (b.atR q [.beginRound, .code body]) (c::cs) E) (lone (b.atR q [.code body]) (c::cs) z):=
   .one (fenced_calm (fr:=b.atR q [.beginRound, .code body]) i j rfl) (stepR_beginRound rfl C)
  obtain⟨K,x,J,k,a⟩:=o b [] (c::cs) rfl i G j;cases K with
  |normal=>
   obtain⟨v,u,g,m⟩:=k;exact⟨.returned v,u,m,(StepsIn.trans d y).trans (StepsIn.trans a (.one (fenced_calm (fr:=b.atR x []) i j rfl) (stepR_round_end rfl rfl g)))⟩
  |ret=>
   obtain⟨v,u,g,m⟩:=k;obtain⟨D,r⟩:=a.2 rfl;exact⟨.returned v,u,m,(StepsIn.trans d y).trans (StepsIn.trans r (.one (fenced_calm (fr:=b.atR x (.code .ret::D)) i j rfl) (stepR_round_ret rfl rfl g)))⟩
  |exit id=>
   obtain⟨v,u,g,m⟩:=k;obtain⟨D,L,r⟩:=a.2 rfl rfl;exact⟨.returned v,u,m,(StepsIn.trans d y).trans (StepsIn.trans r (.one (fenced_calm (fr:=b.atR x (.code (.exit id)::D)) i j rfl) (stepR_round_exit rfl rfl L g)))⟩
  |goto t=>exact k.elim
  |panic chain=>
   obtain⟨hd,m⟩:=k;obtain⟨s,r⟩:=a;have I:({b.atR x s with mode:= .panicking chain}:Frame).leaving P J (.panicked chain):=⟨rfl,hd,hf⟩
   refine⟨.panicked chain,J,m,(StepsIn.trans d y).trans (StepsIn.trans r (.one (fenced_leaving (n:=n) i j I) (step_leave_panicked I)))⟩
  |outgrown=>exact k.elim
 |exit id=>exact p.elim
 |goto t=>exact p.elim
 |ret=>exact p.elim
 |panic chain=>exact p.elim
 |outgrown=>exact p.elim
def MI {fn:Func}{args:Array Value}
  (hf:P.funcs[f]?=some fn)(hb:fn.body=some c)(p:F.fn f)(y:B f)
  (h:wpB B F n P c (bodyPostM F n P fn R) {tmps:=args++aw (fn.ntmps - args.size) undef,defers:=[]} w)(x:F.round=none:=by rfl):CallsIn F n P f args w R:=by
 refine⟨p,fun cs u=> ?_⟩
 let b:Frame:={(default:Frame)with fn:=f,kind:= .normal,roundOf:=none}
 have k:Frame.enter P f args .normal=
   b.atR {tmps:=args++aw (fn.ntmps - args.size) undef,defers:=[]} [.code c]:=by
  simp[Frame.enter,Frame.atR,hf,hb,b]
 obtain⟨e,m,w',q,a⟩:=h b [] cs x.symm p y u;rw[<-k]at a;cases e with
 |normal=>
  obtain⟨r,j,d,s,v,g,t⟩:=leaves_stepsInM m.defers .returning w' {b.atR m []with mode:= .returning} cs rfl rfl rfl hf rfl p u q;exact⟨r,j,d,s,ComesIn.of_steps (StepsIn.trans a (.one (fenced_calm (fr:=b.atR m []) p u rfl) (stepR_end rfl))) v,g,t⟩
 |ret=>
  obtain⟨i,o⟩:=a.1 rfl;obtain⟨r,j,d,s,v,g,t⟩:=leaves_stepsInM m.defers .returning w' {b.atR m i with mode:= .returning} cs rfl rfl rfl hf rfl p u q;exact⟨r,j,d,s,ComesIn.of_steps o v,g,t⟩
 |panic chain=>
  obtain⟨i,o⟩:=a;obtain⟨r,j,d,s,v,g,t⟩:=leaves_stepsInM m.defers (.panicking chain) w' {b.atR m i with mode:= .panicking chain} cs rfl rfl rfl hf rfl p u q;exact⟨r,j,d,s,ComesIn.of_steps o v,g,t⟩
 |exit id=>exact q.elim
 |goto l=>exact q.elim
 |outgrown=>exact⟨.outgrown,w',b,q,a.resolve_left (by simp[b]),rfl,trivial⟩
end
def fH:aA->Bool
 | .seq a b=>fH a&&fH b
 | .cond _ a b=>fH a&&fH b
 | .block _ c=>fH c
 | .scope c=>fH c
 | .loop _=>false
 | .rM _ _ _ _ _=>false
 | _=>true
def Eo {C:Ctx}{nb na nb' na':Nat}:∀(pc:aA),fH pc=true->∀(Q:Ex->St->Prop),pwp C nb na pc Q=pwp C nb' na' pc Q
 | .skip,_,_=>rfl
 | .region _ _ _ _ _,_,_=>rfl
 | .exit _,_,_=>rfl
 | .label _,_,_=>rfl
 | .ret,_,_=>rfl
 | .seq a b,h,Q=>by
  simp only[fH,H]at h
  funext s
  simp only[pwp];rw[Eo (nb':=nb') (na':=na') a h.1];simp only[Eo (nb':=nb') (na':=na') b h.2]
 | .cond c a b,h,Q=>by
  simp only[fH,H]at h
  funext s
  simp only[pwp];rw[Eo (nb':=nb') (na':=na') a h.1,Eo (nb':=nb') (na':=na') b h.2]
 | .block id c,h,Q=>by
  simp only[fH]at h
  funext s
  simp only[pwp];rw[Eo (nb':=nb') (na':=na') c h]
 | .scope c,h,Q=>by
  simp only[fH]at h
  funext s
  simp only[pwp];rw[Eo (nb':=nb') (na':=na') c h]
 | .loop _,h,_=>by simp[fH]at h
 | .rM _ _ _ _ _,h,_=>by simp[fH]at h
def BA:aA->Bool
 | .seq a b=>BA a&&BA b
 | .cond _ a b=>BA a&&BA b
 | .block _ c=>BA c
 | .scope c=>BA c
 | .loop c=>BA c
 | .rM _ _ _ _ _=>false
 | _=>true
def jO:∀{pc:aA},fH pc=true->BA pc=true
 | .skip,_=>rfl
 | .region _ _ _ _ _,_=>rfl
 | .exit _,_=>rfl
 | .label _,_=>rfl
 | .ret,_=>rfl
 | .seq a b,h=>by simp only[fH,H]at h;simp[BA,jO h.1,jO h.2]
 | .cond _ a b,h=>by simp only[fH,H]at h;simp[BA,jO h.1,jO h.2]
 | .block _ c,h=>jO (pc:=c) h
 | .scope c,h=>jO (pc:=c) h
 | .loop _,h=>by simp[fH]at h
 | .rM _ _ _ _ _,h=>by simp[fH]at h
def DU (t:Nat):Code->Bool
 | .seq a b=>DU t a&&DU t b
 | .cond _ a b=>DU t a&&DU t b
 | .block _ c=>DU t c
 | .loop c=>DU t c
 | .scope c=>DU t c
 | .region _ ops _=>ops.all fun o=>o.dst !=some t
 | .rangeFunc _ _ _ _=>false
 | _=>true
def chk (P:Program)(n:Nat):Code->aA->Bool
 | .skip, .skip=>true
 | .region _ ops i, .region d k _ _ _=>i==d&&Iz P n ops ops.toList k&&(!d||RZ ops k)
 | .seq a b, .seq p q=>chk P n a p&&chk P n b q
 | .cond c x y, .cond e m o=>Vj c e&&chk P n x m&&chk P n y o
 | .block id c, .block g e=>id==g&&chk P n c e
 | .loop c, .loop e=>chk P n c e
 | .exit id, .exit g=>id==g
 | .scope c, .scope e=>chk P n c e
 | .label l, .label s=>l==s
 | .ret, .ret=>true
 | .rangeFunc f k x y, .rM r h j m o=>Vj f r&&decide (k.toList=h)&&decide h.Nodup&&(h.all (·<n))&&(j.all (·<n))&&chk P n x m&&chk P n y o&&fH m&&fH o
 | _,_=>false
section
variable {C:Ctx}{X:Nat->Prop}
variable{w w':World}{O O':Nat->Prop}
def QL.move (hk:∀b o,¬O b->w.heap[b]?=some o->w'.heap[b]?=some o/\¬O' b){A:Arr}{loc:Option (Nat×Nat×Nat)}{i off:Nat}{v:Value}(h:QL w O A loc i off v):QL w' O' A loc i off v:=by
 refine⟨h.1,?_⟩;cases loc with
 |none=>exact bF.mono hk h.2
 |some q=>exact h.2
def YQ.move (hk:∀b o,¬O b->w.heap[b]?=some o->w'.heap[b]?=some o/\¬O' b){A:Arr}{loc:Option (Nat×Nat×Nat)}{skip:Nat}{v:Value}(h:YQ w O A loc skip v):YQ w' O' A loc skip v:=by
 refine⟨h.1,?_⟩;cases loc with
 |none=>exact bF.mono hk h.2
 |some q=>exact h.2
def YO.move (hk:∀b o,¬O b->w.heap[b]?=some o->w'.heap[b]?=some o/\¬O' b){A:Arr}{loc:Option (Nat×Nat×Nat)}{skip len:Nat}{v:Value}(h:YO w O A loc skip len v):YO w' O' A loc skip len v:=by
 refine⟨h.1,?_⟩;cases loc with
 |none=>exact bF.mono hk h.2
 |some q=>exact h.2
mutual
def Rep.move {w w':World}{O O':Nat->Prop}{M:Mem}{E:Emb}(hk:∀b o,¬O b->w.heap[b]?=some o->w'.heap[b]?=some o/\¬O' b):∀{v:Value} {p:PV},Rep w O M E v p->Rep w' O' M E v p
 | _,_, .d h=> .d (h.mono hk)
 | _,_, .ptr g f i=> .ptr g f i
 | _,_, .mref g f i=> .mref g f i
 | _,_, .nM g f i=> .nM g f i
 | _,_, .xO g f i=> .xO g f i
 | _,_, .ji a h=> .ji a fun A l=>by
   obtain⟨h1,h2⟩:=h A l;exact⟨h1,fun e=>by obtain⟨c,j,k⟩:=h2 e;exact⟨c,j,k.move hk⟩⟩
 | _,_, .tsl a h=> .tsl a fun A l=>by
   obtain⟨h1,h2⟩:=h A l;exact⟨h1,fun e=>by obtain⟨c,j,k⟩:=h2 e;exact⟨c,j,k.move hk⟩⟩
 | _,_, .psl a h=> .psl a fun A l=>by
   obtain⟨h1,h2⟩:=h A l;exact⟨h1,fun e=>by obtain⟨c,j,k⟩:=h2 e;exact⟨c,j,k.move hk⟩⟩
 | _,_, .dead=> .dead
 | _,_, .func h1 h2=> .func (aK.move hk h1) (aK.move hk h2)
 | _,_, .agg h=> .agg (aK.move hk h)
 | _,_, .tup h=> .tup (aK.move hk h)
def aK.move {w w':World}{O O':Nat->Prop}{M:Mem}{E:Emb}(hk:∀b o,¬O b->w.heap[b]?=some o->w'.heap[b]?=some o/\¬O' b):∀{v:List Value} {p:List PV},aK w O M E v p->aK w' O' M E v p
 | _,_, .nil=> .nil
 | _,_, .cons h t=> .cons (Rep.move hk h) (aK.move hk t)
end
variable{X':Nat->Prop}{w w':World}{M:Mem}{E:Emb}
def Sim.shift (h:Sim C X w M E)(d:∀b,C.low b->X' b)(hlt:∀b,X' b->b<w'.heap.size)(r:∀b,C.low b->w'.heap[b]?=w.heap[b]?)
  (hk:∀b o,¬X b->w.heap[b]?=some o->w'.heap[b]?=some o/\¬X' b):Sim C X' w' M E/\(∀b o,¬away X M E b->w.heap[b]?=some o->w'.heap[b]?=some o/\¬away X' M E b):=by
 have c:∀b o,¬away X M E b->w.heap[b]?=some o->w'.heap[b]?=some o/\¬away X' M E b:=by
  intro b o g f;obtain⟨h1,h2⟩:=hk b o (fun j=>g (.inl j)) f;exact⟨h1,fun j=>j.elim h2 fun i=>g (.inr i)⟩
 refine⟨?_,c⟩;exact
  {glob:=C.keeps w w' h.glob r,gG:=d,xlt:=hlt,fU:=h.fU,bn:=h.bn
   box:=fun b cs g=>by
    obtain⟨a,h1,h2,h3⟩:=h.box b cs g;obtain⟨o,f⟩:=h3.obj;exact⟨a,h1,(hk a o h2 f).2,h3.move (fun o f=>(hk a o h2 f).1) c fun _ _ _ s=>s.move c⟩
   arr:=fun k A p=>by
    obtain⟨h1,h2,h3,n⟩:=h.arr k A p;refine⟨h1,h2,h3,fun a o e q=> ?_⟩;obtain⟨l,vs,T,g2,g3,g4,m⟩:=n a o e q;exact⟨(hk a _ l g2).2,vs,T,(hk a _ l g2).1,g3,g4,m.mono c⟩
   bb:=h.bb,aa:=h.aa,ba:=h.ba}
def Sim.less (h:Sim C X w M E)(hx:∀b,X' b->X b)(a:∀b,C.low b->X' b):Sim C X' w M E:=
 (h.shift a (fun b c=>h.xlt b (hx b c)) (fun _ _=>rfl) fun b o c e=>⟨e,fun d=>c (hx b d)⟩).1
variable{v:Value}{p:PV}
def Rep.less (h:Rep w (away X M E) M E v p)(hx:∀b,X' b->X b):Rep w (away X' M E) M E v p:=
 h.move fun b o c d=>⟨d,fun a=>c (a.imp (hx b) id)⟩
variable{L:Loop}{st:LoopState}{pd:Option Code}
def Jf {b:Nat}{st':LoopState}{pd':Option Code}{cells:List PV}(h:Sim C X w M E)(hb:M.boxes[b]?=some (some (.fP {L with state:=st,pending:=pd}::cells)))(c:b∉M.fz):
  ∃(l:Nat) (tmps:Array Value),E.bx[b]?=some l/\¬X l/\tmps.size=L.tmps.size/\w.heap[l]?=some (.loop {L with state:=st,pending:=pd,tmps:=tmps})/\aK w (away X M E) M E tmps.toList cells/\
   Sim C X (w.putObj l (.loop {L with state:=st',pending:=pd',tmps:=tmps})) {M with boxes:=M.boxes.set b (some (.fP {L with state:=st',pending:=pd'}::cells))} E/\
   From w M E (w.putObj l (.loop {L with state:=st',pending:=pd',tmps:=tmps})) {M with boxes:=M.boxes.set b (some (.fP {L with state:=st',pending:=pd'}::cells))} E:=by
 obtain⟨l,d,f,g⟩:=h.box b _ hb;obtain⟨tmps,r1,r2,r3⟩:=g;have a:=bZ r2;obtain⟨i,j⟩:=Jg (cs':= .fP {L with state:=st',pending:=pd'}::cells) h hb c rfl rfl d (I5 w l (.loop {L with state:=st',pending:=pd',tmps:=tmps}) a)
  fun e=>⟨tmps,r1,by simp[a],r3.from e⟩
 exact⟨l,tmps,d,f,r1,r2,r3,i,j⟩
def DF:∀(l:List (Nat×Value)) (tmps:Array Value),(l.foldl (fun t (x:Nat×Value)=>t.setIfInBounds x.1 x.2) tmps).size=tmps.size
 | [],_=>rfl
 |x::l,tmps=>by rw[a8,DF l];simp
def CB {t:Nat}:∀(l:List (Nat×Value)) (tmps:Array Value),(∀x∈l,x.1≠t)->(l.foldl (fun t (x:Nat×Value)=>t.setIfInBounds x.1 x.2) tmps).getD t undef=tmps.getD t undef
 | [],_,_=>rfl
 |x::l,tmps,h=>by
  rw[a8,CB l _ fun y a=>h y (by simp[a])];have:x.1≠t:=h x (by simp);simp only[S,az this]
def Qz {R:Value->PV->Prop}{ajD:List (Nat×PV)}{t:Nat}:∀(ps:List Nat) (vs:List Value) (ds:List PV) (tmps:Array Value),vs.length=ps.length->ds.length=ps.length->ps.Nodup->(∀p∈ps,p<tmps.size)->
  (∀(i:Nat) (v:Value) (d:PV),vs[i]?=some v->ds[i]?=some d->R v d)->(t∉ps->R (tmps.getD t undef) (look ajD t))->
  R (((ps.zip vs).foldl (fun t (x:Nat×Value)=>t.setIfInBounds x.1 x.2) tmps).getD t undef) (look (ps.zip ds++ajD) t)
 | [],_,_,_,_,_,_,_,_,h=>by simpa using h
 |p::ps,[],_,_,h,_,_,_,_,_=>by simp at h
 |p::ps,_::_,[],_,_,h,_,_,_,_=>by simp at h
 |p::ps,v::vs,d::ds,tmps,h1,h2,c,a,f,g=>by
  rw[List.nodup_cons]at c;simp only[List.zip_cons_cons,a8,br,look]
  by_cases b:p=t
  ·subst b
   simp only[beq_self_eq_true,cond_true];rw[CB _ _ fun x m e=>c.1 (by rw[<-e];exact(List.of_mem_zip m).1)];have:p<tmps.size:=a p (by simp);have e:(tmps.setIfInBounds p v).getD p undef=v:=by simp[S,this]
   rw[e];exact f 0 v d rfl rfl
  ·have:(p==t)=false:=by simp[b]
   simp only[this,cond_false];refine Qz ps vs ds _ (by simpa using h1) (by simpa using h2) c.2 (fun q j=>by simpa using a q (by simp[j])) (fun i v d l hd=>f (i+1) v d (by simpa using l) (by simpa using hd)) fun k=> ?_
   have e:(tmps.setIfInBounds p v).getD t undef=tmps.getD t undef:=by simp only[S,az b]
   rw[e];exact g (by simp[k,Ne.symm b])
variable{s:St}
def RS {n:Nat}{keys:List Nat}(hk:keys.all (·<n)=true)(t:Nat):look (gW s.env keys) t= .dead\/(t<n/\look (gW s.env keys) t=look s.env t):=by
 induction keys with
 |nil=>exact .inl rfl
 |cons k b a=>
  simp only[bL,H,decide_eq_true_eq]at hk;simp only[gW,W,look]
  by_cases h:k=t
  ·subst h;simp[hk.1]
  ·have:(k==t)=false:=by simp[h]
   simp only[this,cond_false];exact a hk.2
def InS.from {lo:Lo}{n:Nat}{s:St}{a:Act}{w w':World}{E E':Emb}{M':Mem}(h:InS C X lo n s a w E)(b:Sim C X w' M' E')(hf:From w s.mem E w' M' E'):InS C X lo n ⟨s.env,M'⟩ a w' E':={
 sim:=b
 env:=fun t=>(h.env t).from hf
 size:=h.size
 defers:=h.defers.from h.sim hf
 fix:=h.fix}
def KJ {cells:List PV}{xb:List (Option (List PV))}{xf:List Nat}{xa:List (Option Arr)}:(fV M L st pd cells xb xf xa).boxes[M.boxes.length]?=some (some (.fP {L with state:=st,pending:=pd}::cells)):=by simp[fV]
def aio {O:Nat->Prop}{g:FuncId}{fs cs:List PV}(h:Rep w O M E v p)(hf:afU p=some (g,fs,cs)):
  ∃Fs c,v= .func (.func g) Fs c/\aK w O M E Fs.toList fs/\aK w O M E c.toList cs:=by
 unfold afU at hf
 split at hf
 ·cases hf
  have hd:=h.toD;cases hd with
  |func b a=>exact⟨_,_,rfl,aK.ofD b,aK.ofD a⟩
 ·cases hf
  cases h with
  |func b a=>exact⟨_,_,rfl,b,a⟩
 ·cases hf
def jh (hm:C.P.follows .mixedOrders=true){n:Nat}:∀(c:Code) (pc:aA) {X:Nat->Prop} {w₀:World} {M₀:Mem} {E₀:Emb} {nb na:Nat} (_:M₀.boxes.length<=nb) (_:M₀.aB.length<=na) (B:FuncId->Prop) (_:(∀g,B g->∃fn,C.P.funcs[g]?=some fn)\/BA pc=true) (ro:Option Nat) (j:List Deferred) (ex:Bool) (fx:Option (Nat×Value)) (Q:Ex->St->Prop) (s:St) (a:Act) (w:World) (E:Emb),
  (∀q,fx=some q->DU q.1 c=true)->(ro=none\/fH pc=true)->(ex=true->fH pc=true)->chk C.P n c pc=true->pwp C nb na pc Q s->InS C X ⟨w₀.heap.size,j,ex,fx⟩ n s a w E->From w₀ M₀ E₀ w s.mem E->wpB B (RF ro) 0 C.P c (Post C X n w₀ M₀ E₀ j ex fx Q) a w
 | .skip,pc,X,w₀,M₀,E₀,nb,na,J,ha,B,hB,ro,j,ex,fx,Q,s,a,w,E,N,A,z,T,h,O,Y=>by
  cases pc<;>simp only[chk,U]at T
  exact EH (wpIn_skip ⟨X,s,E,fun _ h=>h,h,O,Y⟩)
 | .label l,pc,X,w₀,M₀,E₀,nb,na,J,ha,B,hB,ro,j,ex,fx,Q,s,a,w,E,N,A,z,T,h,O,Y=>by
  cases pc<;>simp only[chk,U]at T
  exact EH (wpIn_label ⟨X,s,E,fun _ h=>h,h,O,Y⟩)
 | .exit id,pc,X,w₀,M₀,E₀,nb,na,J,ha,B,hB,ro,j,ex,fx,Q,s,a,w,E,N,A,z,T,h,O,Y=>by
  cases pc<;>simp only[chk,U,beq_iff_eq]at T
  subst T;exact EH (wpIn_exit ⟨X,s,E,fun _ h=>h,h,O,Y⟩)
 | .ret,pc,X,w₀,M₀,E₀,nb,na,J,ha,B,hB,ro,j,ex,fx,Q,s,a,w,E,N,A,z,T,h,O,Y=>by
  cases pc<;>simp only[chk,U]at T
  exact EH (wpIn_ret ⟨X,s,E,fun _ h=>h,h,O,Y⟩)
 | .region id ops b1,pc,X,w₀,M₀,E₀,nb,na,J,ha,B,hB,ro,j,ex,fx,Q,s,a,w,E,N,A,z,T,h,O,Y=>by
  cases pc<;>simp only[chk,U]at T
  rename_i d ps Yf keep fz
  simp only[H,beq_iff_eq]at T;obtain⟨⟨rfl,ce⟩,cA⟩:=T;simp only[pwp]at h;obtain⟨i1,f1⟩:=O.reserve Yf;have hK:∀s' a' w' E',(fun s':St=>qW fz (Q .normal) ⟨gW s'.env keep,s'.mem⟩) s'->InS C X ⟨w₀.heap.size,j,ex,fx⟩ n s' a' w' E'->From w₀ M₀ E₀ w' s'.mem E'->Post C X n w₀ M₀ E₀ j ex fx Q .normal a' w':=by
   intro s' a' w' E' hk cF cB;obtain⟨s2,g1,g2,g3⟩:=KD hk cF.keep;exact⟨X,s2,E',fun _ h=>h,g1,g2,cB.trans g3⟩
  have b7:∀d M' a' w' E' v,(fun d M=>Q (.panic d) ⟨[],M⟩) d M'->Sim C X w' M' E'->From w₀ M₀ E₀ w' M' E'->bF w' (away X M' E') v d->okD ⟨w₀.heap.size,j,ex,fx⟩ X a'.defers w'->(∀q,fx=some q->a'.eval (.tmp q.1)=q.2)->Post C X n w₀ M₀ E₀ j ex fx Q (.panic [{v,recovered:=false}]) a' w':=by
   intro d M' a' w' E' v h1 h2 h3 h4 h5 h6;exact⟨X,v,d,M',E',fun _ h=>h,rfl,h1,h2,h3,h4,h5,h6⟩
  have cc:∀q,(⟨w₀.heap.size,j,ex,fx⟩:Lo).fx=some q->∀o∈ops,o.dst≠some q.1:=fun q hq o ho=>by
   have:=N q hq;simp only[DU,Array.all_eq_true']at this
   simpa using this o ho
  cases b1 with
  |false=>exact EH (wpIn_region (Tv cc ce i1 (Y.trans f1) h hK b7))
  |true=>
   refine EH (Xl cc hm ce (by simpa using cA) ?_ i1 (Y.trans f1) h hK b7);intro s1 s2 he bc hk;have:gW s1.env keep=gW s2.env keep:=by simp only[gW,he]
   simp only[this,bc]at hk;exact hk
 | .seq x y,pc,X,w₀,M₀,E₀,nb,na,J,ha,B,hB,ro,j,ex,fx,Q,s,a,w,E,N,A,z,T,h,O,Y=>by
  cases pc<;>simp only[chk,U,H]at T
  simp only[fH,H]at A z;simp only[pwp]at h;refine ahh (vG (jh hm x _ J ha B (hB.imp id fun e=>(Z.1 e).1) ro j ex fx _ s a w E (fun q hq=>(Z.1 (N q hq)).1) (A.imp id And.left) (fun e=>(z e).1) T.1 h O Y) fun e a' w' V=> ?_);cases e with
  |normal=>
   obtain⟨X',s',E',hx,h1,h2,h3⟩:=V;exact vG (jh hm y _ J ha B (hB.imp id fun e=>(Z.1 e).2) ro j ex fx Q s' a' w' E' (fun q hq=>(Z.1 (N q hq)).2) (A.imp id b5) (fun e=>(z e).2) T.2 h1 h2 h3) fun e a w V=>V.up hx
  |exit id=>exact V
  |ret=>exact V
  |panic ch=>exact V
  |goto l=>exact V.elim
  |outgrown=>exact V.elim
 | .cond c x y,pc,X,w₀,M₀,E₀,nb,na,J,ha,B,hB,ro,j,ex,fx,Q,s,a,w,E,N,A,z,T,h,O,Y=>by
  cases pc<;>simp only[chk,U,H]at T
  simp only[fH,H]at A z;obtain⟨⟨T,hx⟩,hy⟩:=T;simp only[pwp]at h
  split at h
  ·rename_i t ht
   have hv:=Tj O T;rw[ht]at hv;refine OI hv.toD.mg (fun e=> ?_) (fun e=> ?_)
   ·exact jh hm x _ J ha B (hB.imp id fun e=>(Z.1 e).1) ro j ex fx Q s a w E (fun q hq=>(Z.1 (N q hq)).1) (A.imp id And.left) (fun e=>(z e).1) hx (h.1 e) O Y
   ·exact jh hm y _ J ha B (hB.imp id fun e=>(Z.1 e).2) ro j ex fx Q s a w E (fun q hq=>(Z.1 (N q hq)).2) (A.imp id b5) (fun e=>(z e).2) hy (h.2 e) O Y
  ·exact h.elim
 | .block id c,pc,X,w₀,M₀,E₀,nb,na,J,ha,B,hB,ro,j,ex,fx,Q,s,a,w,E,N,A,z,T,h,O,Y=>by
  cases pc<;>simp only[chk,U,H,beq_iff_eq]at T
  simp only[fH]at A z;obtain⟨rfl,T⟩:=T;simp only[pwp]at h;refine abV (vG (jh hm c _ J ha B (by simp only[BA]at hB;exact hB) ro j ex fx _ s a w E N A z T h O Y) fun e a' w' V=> ?_);cases e with
  |normal=>exact V
  |exit cW=>
   obtain⟨X',s',E',hx,h1,h2,h3⟩:=V;simp only[Exit.inBlock];simp only at h1
   split at h1
   ·rename_i hid;rw[if_pos hid];exact⟨X',s',E',hx,h1,h2,h3⟩
   ·rename_i hid;rw[if_neg hid];exact⟨X',s',E',hx,h1,h2,h3⟩
  |ret=>exact V
  |panic ch=>exact V
  |goto l=>exact V.elim
  |outgrown=>exact V.elim
 | .loop c,pc,X,w₀,M₀,E₀,nb,na,J,ha,B,hB,ro,j,ex,fx,Q,s,a,w,E,N,A,z,T,h,O,Y=>by
  cases pc<;>simp only[chk,U]at T
  simp only[fH,U,or_false]at A z;simp only[pwp]at h;obtain⟨I,k,h0,hr⟩:=h;refine afb (fun k a w=>∃(X':Nat->Prop) (s:St) (E:Emb),(∀b,X b->X' b)/\I k s/\InS C X' ⟨w₀.heap.size,j,ex,fx⟩ n s a w E/\From w₀ M₀ E₀ w s.mem E) k ⟨X,s,E,fun _ h=>h,h0,O,Y⟩ ?_;rintro k' a' w' ⟨X',s',E',hx,g1,g2,g3⟩;refine vG (jh hm c _ J ha B (by simp only[BA]at hB;exact hB) ro j ex fx _ s' a' w' E' N (.inl A) (fun e=>(z e).elim) T (hr k' s' g1) g2 g3) fun e a2 w2 V=> ?_
  cases e with
  |normal=>
   obtain⟨X2,s2,E2,cS,⟨k2,s3,q1,q2,q3⟩,h2,h3⟩:=V;obtain⟨E3,r1,r2⟩:=YI h2 h3 J ha q2;exact⟨k2,q1,X2,s3,E3,fun b J=>cS b (hx b J),q3,r1,r2⟩
  |exit id=>obtain⟨X2,s2,E2,q1,q2⟩:=V;exact⟨X2,s2,E2,fun b J=>q1 b (hx b J),q2⟩
  |ret=>obtain⟨X2,s2,E2,q1,q2⟩:=V;exact⟨X2,s2,E2,fun b J=>q1 b (hx b J),q2⟩
  |panic ch=>obtain⟨X2,v2,d2,M2,E2,q1,q2⟩:=V;exact⟨X2,v2,d2,M2,E2,fun b J=>q1 b (hx b J),q2⟩
  |goto l=>exact V.elim
  |outgrown=>exact V.elim
 | .scope c,pc,X,w₀,M₀,E₀,nb,na,J,ha,B,hB,ro,j,ex,fx,Q,s,a,w,E,N,A,z,T,h,O,Y=>by
  cases pc<;>simp only[chk,U]at T
  simp only[fH]at A z;simp only[pwp]at h;refine abW (vG (jh hm c _ J ha B (by simp only[BA]at hB;exact hB) ro j ex fx Q s a w E N A z T h O Y) fun e a' w' V=> ?_);cases e with
  |goto l=>exact V.elim
  | _=>exact V
 | .goto l,pc,X,w₀,M₀,E₀,nb,na,J,ha,B,hB,ro,j,ex,fx,Q,s,a,w,E,N,A,z,T,h,O,Y=>by cases pc<;>simp[chk]at T
 | .refuse r,pc,X,w₀,M₀,E₀,nb,na,J,ha,B,hB,ro,j,ex,fx,Q,s,a,w,E,N,A,z,T,h,O,Y=>by cases pc<;>simp[chk]at T
 | .rangeFunc f ps x y,pc,X,w₀,M₀,E₀,nb,na,J,ha,B,hB,ro,j,ex,fx,Q,s,a,w,E,N,A,z,T,h,O,Y=>by
  cases pc<;>simp only[chk,U,H,decide_eq_true_eq]at T
  rename_i f' cX bs x' y'
  simp only[fH,U,or_false]at A z;subst A;obtain⟨⟨⟨⟨⟨⟨⟨⟨cv,rfl⟩,N⟩,cL⟩,cI⟩,cw⟩,cz⟩,bS⟩,bX⟩:=T;simp only[pwp]at h;obtain⟨g,fs,cs,cE,bz,DN,h⟩:=h;obtain⟨Fs,Cs,ajW,cD,cC⟩:=aio (Tj O cv) cE
  ·
   obtain⟨D,hD⟩:∃D,D=w.heap.size:=⟨_,rfl⟩
   obtain⟨w1,bp⟩:∃w1,w1=w.alloc (.deferred (some [])):=⟨_,rfl⟩
   have b3:∀g,B g->∃fn,C.P.funcs[g]?=some fn:=hB.resolve_right (by simp[BA])
   refine O8 ?_;intro fn _ b4;obtain⟨L,hL⟩:∃L:Loop,L={state:= .ready,pending:=none,fn:=fn,tmps:=a.tmps,params:=ps,assign:=x,body:=y,defers:=D}:=⟨_,rfl⟩
   have bv:L.tmps=a.tmps:=by rw[hL]
   have b0:L.tmps.size=n:=by rw[bv,O.size]
   obtain⟨cells,ai⟩:∃cells,cells=(bq L.tmps.size).map (look s.env):=⟨_,rfl⟩
   have h:=h L (by rw[hL]);rw[<-ai]at h;obtain⟨lp,bN⟩:∃lp,lp=w.heap.size+1:=⟨_,rfl⟩
   have bj:Later w w1:=bp▸Later.alloc w _;have cf:w1.heap.size=w.heap.size+1:=by rw[bp];simp
   have ajN:w1.heap[D]?=some (.deferred (some [])):=by rw[bp,hD];exact heap_alloc_new w _
   obtain⟨X',a3⟩:∃X':Nat->Prop,X'=fun b=>X b\/b=D:=⟨_,rfl⟩
   have a0:∀b,X b->X' b:=fun b J=>by rw[a3];exact .inl J
   have cH:∀b o,¬X b->w.heap[b]?=some o->w1.heap[b]?=some o/\¬X' b:=by
    intro b o J ho;refine⟨bj.iR ho,?_⟩;rw[a3];rintro(hx|rfl)
    ·exact J hx
    ·have:=bZ ho;omega
   obtain⟨b9,bE⟩:=O.sim.shift (X':=X') (w':=w1) (fun b J=>a0 b (O.sim.gG b J)) (fun b J=>by
     rw[a3]at J
     rcases J with J|rfl
     ·have:=O.sim.xlt b J;omega
     ·omega) (fun b J=>bj.keep b (O.sim.xlt b (O.sim.gG b J))) cH
   have aM:InS C X' ⟨w₀.heap.size,j,ex,fx⟩ n s a w1 E:=
    {sim:=b9,env:=fun t=>(O.env t).move bE,size:=O.size,fix:=O.fix
     defers:=by
      obtain⟨ms,hms,⟨a8,a9⟩,bo⟩:=O.defers;exact⟨ms,hms,⟨fun d hd=>by
       obtain⟨D',q1,q2,q3,q4⟩:=a8 d hd;exact⟨D',q1,q2,a0 _ q3,bj.iR q4⟩,a9⟩,bo⟩}
   obtain⟨cp,bA⟩:=Lr b9 1;have bL:E.bx.length=s.mem.boxes.length:=O.sim.fU;obtain⟨cq,cb⟩:=SS (o:= .loop L) (id:=s.mem.boxes.length) (cs:= .fP {L with state:= .ready,pending:=none}::cells) cp (by simp) (fun ak4=>by
    refine⟨a.tmps,by rw[bv],?_,?_⟩
    ·rw[heap_alloc_new];rw[hL]
    ·have:aK w1 (away X' s.mem E) s.mem E a.tmps.toList cells:=by
      rw[ai,bv];have cU:∀(m:Nat) (l:List Value),(∀i v,l[i]?=some v->a.tmps[m+i]?=some v)->aK w1 (away X' s.mem E) s.mem E l ((bk m l.length).map (look s.env)):=by
       intro m l
       induction l generalizing m with
       |nil=>intro _;exact .nil
       |cons v l ih=>
        intro hv;rw[bt,a6,W];refine .cons ?_ (ih (m+1) fun i u hu=>by
         have:=hv (i+1) u (by simpa using hu);rw[<-this];congr 1;omega)
        have h0:=aM.env m;have h1:=hv 0 v rfl;simp only[Nat.add_zero]at h1
        simpa[Act.eval,S,h1]using h0
      have:=cU 0 a.tmps.toList (fun i v hv=>by simpa using hv)
      simpa[bl]using this
     exact(this.from bA).from ak4)
   have cQ:(w1.alloc (.loop L)).heap[lp]?=some (.loop L):=by
    have:=heap_alloc_new w1 (.loop L)
    rwa [cf,<-bN]at this
   have e1:({boxes:=(s.mem.boxes++av 1 none).set s.mem.boxes.length (some (.fP {L with state:= .ready,pending:=none}::cells)),fz:=s.mem.fz,aB:=s.mem.aB}:Mem)=fV s.mem L .ready none cells [] [] []:=by
    simp[fV]
   obtain⟨E1,bh⟩:∃E1:Emb,E1={bx:=(E.bx++av 1 0).set s.mem.boxes.length w1.heap.size,ar:=E.ar}:=⟨_,rfl⟩
   obtain⟨w2,adx⟩:∃w2,w2=w1.alloc (.loop L):=⟨_,rfl⟩
   have cr:Sim C X' w2 (fV s.mem L .ready none cells [] [] []) E1:=by rw[<-e1,bh,adx];exact cq
   have b6:From w s.mem E w2 (fV s.mem L .ready none cells [] [] []) E1:=by
    rw[<-e1,bh,adx];exact((bj.from s.mem E).trans bA).trans cb
   have XG:From w1 s.mem E w2 (fV s.mem L .ready none cells [] [] []) E1:=by
    rw[<-e1,bh,adx];exact bA.trans cb
   have ca:E1.bx[s.mem.boxes.length]?=some lp:=by
    rw[bh,bN,cf];simp[bL]
   rw[<-adx]at cQ;have kV:∀(args:List DV) (K:PV->Mem->Prop) (KP:DV->Mem->Prop) (My:Mem),args.length=ps.toList.length->My.boxes[s.mem.boxes.length]?=some (some (.fP {L with state:= .ready,pending:=none}::cells))->s.mem.boxes.length∉My.fz->
     pwp C nb na x' (fun e s1=>e= .normal/\s1.mem=My/\pwp C nb na y' (aek s.mem.boxes.length L K KP) ⟨s1.env,{My with boxes:=My.boxes.set s.mem.boxes.length (some (.fP {L with state:= .busy,pending:=none}::cells))}⟩)
      ⟨ps.toList.zip (args.map .d)++gW s.env bs,My⟩->
     SY C s.mem.boxes.length (args.map .d) My K KP:=by
    intro args K KP My br aE ajX V Xy wy Ey ax l bi b2 bO;obtain⟨l',ae,q1,q2,q3,q4,q5,_,_⟩:=Jf (st':= .busy) (pd':=none) bi aE ajX;rw[bO]at q1;cases q1;have b8:L.params=ps:=by rw[hL]
    have cn:L.fn=fn:=by rw[hL]
    have cl:L.assign=x:=by rw[hL]
    have cm:L.body=y:=by rw[hL]
    have cg:ax.length=ps.toList.length:=by rw[b2.length,List.length_map,br]
    have hy:=run_yield (P:=C.P) (args:=ax.toArray) q4 (by simp only[b8];simpa using cg);simp only[cn]at hy;refine⟨_,_,_,_,hy,Og (F:=Fence.wide) (n:=0) (B:=B) trivial b4 (b3 _ b4) ?_⟩;simp only[b8,cl,cm];have a7:((ps.zip ax.toArray).foldl (fun ae (x:Nat×Value)=>ae.setIfInBounds x.1 x.2) ae)=((ps.toList.zip ax).foldl (fun t (x:Nat×Value)=>t.setIfInBounds x.1 x.2) ae):=by
     rw[<-Array.foldl_toList];simp
    have cG:InS C Xy ⟨wy.heap.size,[],true,none⟩ n ⟨ps.toList.zip (args.map .d)++gW s.env bs,My⟩
      {tmps:=(ps.zip ax.toArray).foldl (fun ae (x:Nat×Value)=>ae.setIfInBounds x.1 x.2) ae,defers:=[]} wy Ey:=
     {sim:=bi
      size:=by simp only[a7,DF,q3,b0]
      fix:=fun _ h=>by cases h
      defers:=BF
      env:=fun t=>by
       simp only[Act.eval,a7];refine Qz (R:=fun v p=>Rep wy (away Xy My Ey) My Ey v p) _ _ _ _ cg (by simpa using br) N (fun p V=> ?_) (fun i v d hv hd=> ?_) fun _=> ?_
       ·have:=aD.1 cL p V
        rw[q3,b0];simpa using this
       ·obtain⟨v',g1,g2⟩:=b2.get' i d hd
        rw[hv]at g1;cases g1;exact g2
       ·rcases RS (s:=s) cI t with he|⟨ht,he⟩
        ·rw[he];exact .dead
        ·rw[he]
         have T:cells[t]?=some (look s.env t):=by rw[ai];simp[b0,ht]
         obtain⟨v',g1,g2⟩:=q5.get' t _ T;have:ae.getD t undef=v':=by
          rw[aq]at g1;simp[S,g1]
         rw[this];exact g2}
    have ajM:∀{pc:aA},(∀g,B g->∃fn,C.P.funcs[g]?=some fn)\/BA pc=true:= .inl b3
    have cR:=jh hm x x' (M₀:=My) (nb:=My.boxes.length) (na:=My.aB.length) (ap _) (ap _) B ajM (some l) [] true none _ _ _ wy Ey (fun _ h=>by cases h) (.inr bS) (fun _=>bS) cw (by rw[Eo (nb':=nb) (na':=na) x' bS];exact V) cG (.refl _ _ _);refine vG (F:=Fence.wide.inRound l) cR fun e a1 w3 ab=> ?_
    cases e with
    |exit id=>obtain⟨_,_,_,_,⟨he,_⟩,_⟩:=ab;cases he
    |ret=>obtain⟨_,_,_,_,⟨he,_⟩,_⟩:=ab;cases he
    |panic ch=>obtain⟨_,_,_,_,_,_,_,⟨he,_⟩,_⟩:=ab;cases he
    |goto t=>exact ab.elim
    |outgrown=>exact ab.elim
    |normal=>
     obtain⟨X3,⟨akL,cV⟩,E3,cj,⟨_,bo,cK⟩,bB,aiL⟩:=ab;simp only at bo;rw[bo]at bB aiL;obtain⟨l3,akG,u1,u2,u3,u4,u5,u6,u7⟩:=Jf (st':= .busy) (pd':=none) bB.sim aE ajX;rw[(aiL.bx _ _ aE).1,bO]at u1;cases u1;have ct:=run_beginRound (P:=C.P) u4 rfl;refine⟨_,ct,?_⟩;have an:InS C X3 ⟨wy.heap.size,[],true,none⟩ n ⟨akL,{My with boxes:=My.boxes.set s.mem.boxes.length (some (.fP {L with state:= .busy,pending:=none}::cells))}⟩ a1 _ E3:=bB.from u6 u7
     have cT:=jh hm y y' (M₀:=My) (nb:=My.boxes.length) (na:=My.aB.length) (ap _) (ap _) B ajM (some l) [] true none _ _ _ _ E3 (fun _ h=>by cases h) (.inr bX) (fun _=>bX) cz (by rw[Eo (nb':=nb) (na':=na) y' bX];exact cK) an (aiL.trans u7);refine vG (F:=Fence.wide.inRound l) cT fun e2 a5 w5 JC=> ?_
     have bu:∀{e:Exit} {e':Ex} (ac:Option Code) (X5:Nat->Prop) (s5:St) (E5:Emb) (st:LoopState),(∀b,X3 b->X5 b)->st=(if ac.isNone then LoopState.ready else .done)->
       (∃G,s5.mem.boxes[s.mem.boxes.length]?=some (some (.fP {L with state:= .busy,pending:=none}::G))/\s.mem.boxes.length∉s5.mem.fz/\
        K (.d (.bool ac.isNone)) {s5.mem with boxes:=s5.mem.boxes.set s.mem.boxes.length (some (.fP {L with state:=st,pending:=ac}::G))})->
       InS C X5 ⟨wy.heap.size,[],true,none⟩ n s5 a5 w5 E5->From wy My Ey w5 s5.mem E5->
       ∃v w',(Instr.endRound l ac).run C.P w5= .ok v w'/\Fin C Xy wy My Ey K KP w' (.returned v):=by
      rintro e e' ac X5 s5 E5 st ao cP ⟨G,v1,v2,v3⟩ az aw;subst cP;obtain⟨l5,alp,t1,t2,t3,t4,t5,t6,t7⟩:=Jf (st':=if ac.isNone then LoopState.ready else .done) (pd':=ac) az.sim v1 v2;rw[(aw.bx _ _ aE).1,bO]at t1;cases t1;refine⟨_,_,run_endRound ac t4,?_⟩;refine⟨_,_,E5,v3,?_,?_, .d (.bool _)⟩
      ·exact t6.less (X':=Xy) (fun b J=>ao b (cj b J)) bi.gG
      ·exact aw.trans t7
     cases e2 with
     |normal=>
      obtain⟨X5,s5,E5,ao,⟨G,v1,v2,v3⟩,az,aw⟩:=JC;exact bu (e:= .normal) (e':= .normal) none X5 s5 E5 .ready ao rfl ⟨G,v1,v2,v3⟩ az aw
     |ret=>
      obtain⟨X5,s5,E5,ao,⟨G,v1,v2,v3⟩,az,aw⟩:=JC;exact bu (e:= .normal) (e':= .normal) (some .ret) X5 s5 E5 .done ao rfl ⟨G,v1,v2,v3⟩ az aw
     |exit id=>
      obtain⟨X5,s5,E5,ao,⟨G,v1,v2,v3⟩,az,aw⟩:=JC;exact bu (e:= .normal) (e':= .normal) (some (.exit id)) X5 s5 E5 .done ao rfl ⟨G,v1,v2,v3⟩ az aw
     |panic ch=>
      obtain⟨X5,v5,d5,M5,E5,ao,rfl,h1,h2,h3,h4,⟨ms,hms,_,cJ⟩,_⟩:=JC;have akl:∀b,Xy b->X5 b:=fun b J=>ao b (cj b J)
      exact⟨by rw[hms,cJ rfl];rfl,v5,d5,M5,E5,rfl,h1,h2.less akl bi.gG,h3,h4.weaken fun b J=>J.imp (akl b) id⟩
     |goto t=>exact JC.elim
     |outgrown=>exact JC.elim
   have cN:=h kV;have hA:aK w2 (away X' (fV s.mem L .ready none cells [] [] []) E1) (fV s.mem L .ready none cells [] [] []) E1 (Fs.toList++ [.func (.yield lp) #[] #[]]++Cs.toList) (fs++ [.nM s.mem.boxes.length]++cs):=
    (((cD.move bE).from XG).append (.cons (.nM KJ ca rfl) .nil)).append ((cC.move bE).from XG)
   have ado:=cN X' w2 E1 _ cr hA;refine⟨lp,[{target:= .collected D,args:= #[]}],w2,{target:= .fn (.func g) Cs,args:=Fs++ #[.func (.yield lp) #[] #[]]},w2,g,Fs++ #[.func (.yield lp) #[] #[]]++Cs,w2,?_,?_,fun _ _=>trivial,?_,fun h=>by simp[RF,Fence.wide]at h,?_⟩
   ·have:=run_enterLoop_outer (P:=C.P) (w:=w) fn a.tmps ps x y
    rw[adx,bp,hL,bN,hD];exact this
   ·simp only[resolve,ajW]
    simp[go_sem,Deferred.ofValue,Act.eval]
   ·simp[invoke,rX bz]
   have bw:(Fs.toList++ [Value.func (.yield lp) #[] #[]]++Cs.toList).toArray=Fs++ #[Value.func (.yield lp) #[] #[]]++Cs:=by simp
   rw[bw]at ado;refine MH (Calls.mono ado fun e w3 a4=> ?_);cases e with
   |outgrown=>exact a4.elim
   |panicked chain=>
    obtain⟨v,d,M3,E3,rfl,hq,aiw,aaY,cM⟩:=a4;have aL:=b6.trans aaY;refine⟨X',v,d,M3,E3,a0,rfl,hq,aiw,Y.trans aL,cM,?_,O.fix⟩;obtain⟨ms,hms,⟨a8,a9⟩,_⟩:=O.defers;obtain⟨be,aiQ,hold,_⟩:=aM.defers.from aM.sim (XG.trans aaY)
    have bc:be=ms:=by simpa using aiQ.symm.trans hms
    subst bc;refine⟨_::be,by rw[hms];rfl,⟨fun d hd=> ?_,?_⟩,fun e=>(z e).elim⟩
    ·rcases aR.1 hd with rfl|hd
     ·refine⟨D,rfl,by rw[hD];exact Y.size,by rw[a3];exact .inr rfl,?_⟩
      have bR:¬owned s.mem E D:=fun ho=>by have:=O.sim.NR ho;omega
      exact(XG.trans aaY).keep D _ bR ajN
     ·exact hold.1 d hd
    ·refine am.2 ⟨fun d hd he=> ?_,a9⟩
     obtain⟨D',g1,g2,g3,g4⟩:=a8 d hd;rw[g1]at he
     injection he with he
     have:=bZ g4;omega
   |returned v=>
    obtain⟨p,M3,E3,⟨st,pd,ck,v1,v2,v3,v4⟩,aiw,aaY,_⟩:=a4;obtain⟨l3,akG,u1,u2,u3,u4,u5,u6,u7⟩:=Jf (st':= .exhausted) (pd':=pd) aiw v1 v3;rw[(aaY.bx _ _ KJ).1,ca]at u1;cases u1;refine⟨pd,_,run_endLoop u4 v2,?_⟩;have aL:=(aaY.trans u7)
    have an:InS C X' ⟨w₀.heap.size,j,ex,fx⟩ n ⟨s.env,_⟩ {a with defers:=[{target:= .collected D,args:= #[]}]++a.defers} _ E3:=
     {sim:=u6
      env:=fun t=>(aM.env t).from (XG.trans aL)
      size:=O.size
      fix:=O.fix
      defers:=by
       obtain⟨ms,hms,⟨a8,a9⟩,_⟩:=O.defers;obtain⟨be,aiQ,hold,_⟩:=aM.defers.from aM.sim (XG.trans aL)
       have bc:be=ms:=by simpa using aiQ.symm.trans hms
       subst bc;refine⟨_::be,by rw[hms];rfl,⟨fun d hd=> ?_,?_⟩,fun e=>(z e).elim⟩
       ·rcases aR.1 hd with rfl|hd
        ·refine⟨D,rfl,by rw[hD];exact Y.size,by rw[a3];exact .inr rfl,?_⟩
         have bR:¬owned s.mem E D:=fun ho=>by have:=O.sim.NR ho;omega
         exact(XG.trans aL).keep D _ bR ajN
        ·exact hold.1 d hd
       ·refine am.2 ⟨fun d hd he=> ?_,a9⟩
        obtain⟨D',g1,g2,g3,g4⟩:=a8 d hd;rw[g1]at he
        injection he with he
        have:=bZ g4;omega}
    have XH:=(Y.trans b6).trans aL
    match pd,v4,an,XH with
    |none,v4,an,XH=>exact⟨X',_,E3,a0,v4,an,XH⟩
    |some .ret,v4,an,XH=>exact EH<|wpIn_ret ⟨X',_,E3,a0,v4,an,XH⟩
    |some (.exit id),v4,an,XH=>exact EH<|wpIn_exit ⟨X',_,E3,a0,v4,an,XH⟩
def zB (j:C.P.follows .mixedOrders=true){n:Nat}(c:Code)(pc:aA){X:Nat->Prop}{w₀:World}{M₀:Mem}{E₀:Emb}{nb na:Nat}(hb:M₀.boxes.length<=nb)(i:M₀.aB.length<=na)(k:BA pc=true)(ro:Option Nat)(b:List Deferred)(ex:Bool)(fx:Option (Nat×Value))(Q:Ex->St->Prop)(s:St)(a:Act)(w:World)(E:Emb)
  (h1:∀q,fx=some q->DU q.1 c=true)(h2:ro=none\/fH pc=true)(d:ex=true->fH pc=true)(e:chk C.P n c pc=true)(f:pwp C nb na pc Q s)(g:InS C X ⟨w₀.heap.size,b,ex,fx⟩ n s a w E)(h:From w₀ M₀ E₀ w s.mem E):c.wpIn (RF ro) 0 C.P (Post C X n w₀ M₀ E₀ b ex fx Q) a w:=
 ahg (jh j c pc hb i (fun _=>True) (.inr k) ro b ex fx Q s a w E h1 h2 d e f g h)
inductive iw where
 |tmp (t:Nat)
 |cell (t:Nat) (agg:Bool) (n:Nat)
def KN (P:Program):List ResultVar->List iw->Bool
 | [],[]=>true
 | .tmp t::l, .tmp b::a=>t==b&&KN P l a
 | .cell t ty::l, .cell b agg n::a=>t==b&&uO P ty agg n&&KN P l a
 | _,_=>false
def ny:List iw->St->(List PV->Prop)->Prop
 | [],_,K=>K []
 | .tmp t::l,s,K=>ny l s fun a=>K (look s.env t::a)
 | .cell t agg n::l,s,K=>bP agg n (look s.env t) s.mem fun v=>ny l s fun a=>K (v::a)
def resV:List PV->PV
 | [x]=>x
 |a=>Iu a
def QY {P:Program}{t:TypeId}{u:Value}(h:(Instr.loadAt t v).run P w= .ok u w):(do loadVar t (<-asAddr v):Sem Value).run P w= .ok u w:=by
 cases v with
 |pointer a=>
  cases a with
  |none=>simp[Instr.loadAt,Instr.sureAddr]at h
  |some a=>simpa[Instr.loadAt,Instr.sureAddr,asAddr]using h
 | _=>simp[Instr.loadAt,Instr.sureAddr]at h
def agN (tmps:Array Value):ResultVar->Sem Value
 | .tmp t=>pure (tmps.getD t undef)
 | .cell x t=>do loadVar t (<-asAddr (tmps.getD x undef))
def Oe (fn:Func)(tmps:Array Value):results fn tmps=(do let vs<-fn.results.mapM (agN tmps);pure (if h:vs.size=1 then vs[0]else .tuple vs)):=rfl
def JR {lo:Lo}{n:Nat}{s:St}{a:Act}{w:World}{E:Emb}(hi:InS C X lo n s a w E):∀{l:List ResultVar} {d:List iw} {K:List PV->Prop},KN C.P l d=true->ny d s K->
  ∃vs ps,(l.mapM (agN a.tmps):Sem (List Value)).run C.P w= .ok vs w/\K ps/\aK w (away X s.mem E) s.mem E vs ps
 | [],[],K,_,h=>⟨[],[],by simp,h, .nil⟩
 | .tmp t::l, .tmp k::d,K,b,h=>by
  simp only[KN,H,beq_iff_eq]at b;obtain⟨rfl,b⟩:=b;obtain⟨vs,ps,h1,h2,e⟩:=JR hi b h;refine⟨a.tmps.getD t undef::vs,_,?_,h2, .cons (hi.env t) e⟩;simp only[bB,agN,Sem.run_bind,Sem.run_pure,Result.andThen_ok,h1]
 | .cell x t::l, .cell o agg m::d,K,b,h=>by
  simp only[KN,H,beq_iff_eq]at b;obtain⟨⟨rfl,f⟩,b⟩:=b;simp only[ny]at h;obtain⟨u,pv,g,i,j⟩:=Gq hi.sim (hi.env x) f h;have c:=QY g;obtain⟨vs,ps,h1,h2,e⟩:=JR hi b i;refine⟨u::vs,_,?_,h2, .cons j e⟩;simp only[bB];rw[Sem.run_bind];simp only[Act.eval]at c;rw[show agN a.tmps (.cell x t)=(do loadVar t (<-asAddr (a.tmps.getD x undef))) from rfl,c];simp only[Result.andThen_ok,Sem.run_bind,h1,Sem.run_pure]
def Rep.Iu {w:World}{O:Nat->Prop}{M:Mem}{E:Emb}{vs:List Value}{ps:List PV}(h:aK w O M E vs ps):Rep w O M E (.tuple vs.toArray) (Iu ps):=by
 unfold Am.Iu
 split
 ·rename_i ds hd;exact .d (.tup (by simpa using h.gU hd))
 ·exact .tup (by simpa using h)
def Gp {lo:Lo}{n:Nat}{a:Act}(hi:InS C X lo n s a w E){fn:Func}{e:List iw}{K:List PV->Prop}(d:KN C.P fn.results.toList e=true)(h:ny e s K):
  ∃v ps,(results fn a.tmps).run C.P w= .ok v w/\K ps/\Rep w (away X s.mem E) s.mem E v (resV ps):=by
 obtain⟨c,ps,h1,h2,b⟩:=JR hi d h;refine⟨if h:c.toArray.size=1 then c.toArray[0]else .tuple c.toArray,ps,?_,h2,?_⟩
 ·rw[Oe,Array.mapM_eq_mapM_toList]
  simp only[Sem.run_bind,Sem.run_map,h1,Result.andThen_ok,Sem.run_pure]
 ·have f:=b.length
  match ps,c,b,f with
  | [],[],b,_=>exact Rep.Iu b
  | [p],[v],b,_=>cases b with|cons b _=>exact b
  |p::q::l,v::u::m,b,_=>
   have:¬((v::u::m).toArray.size=1):=by simp
   rw[dif_neg this];exact Rep.Iu b
def qw:Nat->List PV->List (Nat×PV)
 | _,[]=>[]
 |k,v::a=>(k,v)::qw (k+1) a
def GX:∀{vs:List PV} {k t:Nat},look (qw k vs) t=if t<k then .dead else(vs[t - k]?).getD .dead
 | [],k,t=>by simp[qw,look]
 |v::vs,k,t=>by
  simp only[qw,look]
  by_cases h:k=t
  ·subst h;simp
  ·have:(k==t)=false:=by simp[h]
   simp only[this,cond_false,GX]
   by_cases h2:t<k
   ·rw[if_pos (by omega),if_pos h2]
   ·rw[if_neg (by omega),if_neg h2]
    have:t - k=(t - (k+1))+1:=by omega
    rw[this];simp
def zL (P:Program)(f:FuncId)(a:Nat)(pc:aA)(b:List iw):Bool:=
 match P.funcs[f]? with
 |some fn=>match fn.body with
  |some code=>decide (a<=fn.ntmps)&&chk P fn.ntmps code pc&&KN P fn.results.toList b
  |none=>false
 |none=>false
def LG (b:List iw)(K:PV->Mem->Prop)(KP:DV->Mem->Prop):Ex->St->Prop
 | .normal,s=>ny b s fun a=>K (resV a) s.mem
 | .ret,s=>ny b s fun a=>K (resV a) s.mem
 | .panic d,s=>KP d s.mem
 | .exit _,_=>False
structure Shut (ds:List Deferred) (w w':World):Prop where
 os:w'.os=w.os
 tape:w'.tape=w.tape
 output:w'.output=w.output
 size:w'.heap.size=w.heap.size
 keep:∀b,(∀d∈ds,d.target≠ .collected b)->w'.heap[b]?=w.heap[b]?
def nH {P:Program}{fn:Func}{tmps:Array Value}{R:Ending->World->Prop}{lo:Nat}{f:List Deferred}{u:FrameMode}(l:u≠ .run):∀{ds:List Deferred} {w:World},okM lo X ds w->
  (∀w',Shut ds w w'->LeavesInM Fence.wide 0 P fn tmps R f u w')->LeavesInM Fence.wide 0 P fn tmps R (ds++f) u w
 | [],w,_,h=>h w ⟨rfl,rfl,rfl,rfl,fun _ _=>rfl⟩
 |d::ds,w,hd,h=>by
  obtain⟨h1,h2⟩:=hd;rw[am]at h2;obtain⟨D,i,s,t,n⟩:=h1 d (by simp);refine⟨l, .inl ⟨D,w.putObj D (.deferred none),i,run_takeDeferred n,?_⟩⟩;have j:∀c∈ds,∀e,c.target= .collected e->e≠D:=by
   rintro c a e o rfl;exact h2.1 c a (by rw[i,o])
  refine nH l (lo:=lo) ⟨fun c a=> ?_,h2.2⟩ fun w' g=>h w' ?_
  ·obtain⟨e,m,p,q,r⟩:=h1 c (by simp[a])
   exact⟨e,m,p,q,by rw[World.putObj_heap_other (j c a e m)];exact r⟩
  ·refine⟨g.os,g.tape,g.output,by rw[g.size];simp,fun b k=> ?_⟩
   rw[g.keep b fun c a=>k c (by simp[a]),World.putObj_heap_other];rintro rfl;exact k d (by simp) i
def Eu {e:World}{M':Mem}{E':Emb}{ds:List Deferred}(h:Sim C X' w' M' E')(f:∀b,C.low b->b<w.heap.size)(hf:From w M E w' M' E')(hd:okM w.heap.size X' ds w')(hs:Shut ds w' e):
  Sim C X' e M' E'/\From w M E e M' E'/\(∀b o,¬away X' M' E' b->w'.heap[b]?=some o->e.heap[b]?=some o/\¬away X' M' E' b):=by
 have a:∀b,(¬X' b\/b<w.heap.size)->e.heap[b]?=w'.heap[b]?:=by
  intro b c;refine hs.keep b fun d j g=> ?_
  obtain⟨D,k,p,l,_⟩:=hd.1 d j;rw[k]at g
  injection g with g
  subst g
  rcases c with c|c
  ·exact c l
  ·omega
 obtain⟨m,n⟩:=h.shift (X':=X') (w':=e) h.gG (fun b c=>by rw[hs.size];exact h.xlt b c) (fun b c=>a b (.inr (f b c))) fun b o c i=>⟨by rw[a b (.inl c)];exact i,c⟩
 refine⟨m,?_,n⟩;exact
  {os:=hs.os.trans hf.os,tape:=hs.tape.trans hf.tape,output:=hs.output.trans hf.output,size:=by rw[hs.size];exact hf.size,
   keep:=fun b o c i=>by rw[a b (.inr (bZ i))];exact hf.keep b o c i,
   own:=hf.own,fU:=hf.fU,bx:=hf.bx,bn:=hf.bn,ar:=hf.ar}
def AL (hm:C.P.follows .mixedOrders=true){f:FuncId}{args:List PV}{M:Mem}{K:PV->Mem->Prop}{KP:DV->Mem->Prop}{pc:aA}{R:List iw}{j:Nat}(hn:args.length=j)(hc:zL C.P f j pc R=true)
  (h:pwp C M.boxes.length M.aB.length pc (LG R K KP) ⟨qw 0 args,M⟩):SC C f args M K KP:=by
 subst hn;intro X w E a A T;unfold zL at hc
 split at hc
 ·rename_i fn D
  split at hc
  ·rename_i code q
   simp only[H,decide_eq_true_eq]at hc;obtain⟨⟨ab,akW⟩,G⟩:=hc;have ac:a.length=args.length:=T.length;have hi:InS C X ⟨w.heap.size,[],false,none⟩ fn.ntmps ⟨qw 0 args,M⟩ {tmps:=a.toArray++aw (fn.ntmps - a.toArray.size) undef,defers:=[]} w E:=
    {sim:=A
     size:=by simp;omega
     defers:=BF
     fix:=fun _ h=>by cases h
     env:=fun t=>by
      simp only[GX,Nat.not_lt_zero,if_false,bS];cases ht:args[t]? with
      |none=>exact .dead
      |some p=>
       obtain⟨v,U,hr⟩:=T.get' t p ht;have N:t<a.length:=(ai.1 U).1;have:({tmps:=a.toArray++aw (fn.ntmps - a.toArray.size) undef,defers:=[]}:Act).eval (.tmp t)=v:=by
        simp only[Act.eval,S];rw[Array.getElem?_append_left (by simpa using N)];simp[U]
       rw[this];exact hr}
   refine(callsIn_wide (n:=0)).1 (MI (F:=Fence.wide) (B:=fun g=>∃fn,C.P.funcs[g]?=some fn) D q trivial ⟨fn,D⟩ ?_);refine vG (F:=RF none) (jh hm code pc (ap _) (ap _) _ (.inl fun _ h=>h) none [] false none _ _ _ w E (fun _ h=>by cases h) (.inl rfl) (fun e=>by cases e) akW h hi (.refl _ _ _)) fun e y w' x=> ?_
   have m:∀b,C.low b->b<w.heap.size:=fun b J=>A.xlt b (A.gG b J)
   have z:∀(s:St) (X':Nat->Prop) (c:Emb),(∀b,X b->X' b)->ny R s (fun vs=>K (resV vs) s.mem)->InS C X' ⟨w.heap.size,[],false,none⟩ fn.ntmps s y w' c->From w M E w' s.mem c->
     LeavesInM Fence.wide 0 C.P fn y.tmps (fun e w'=>Fin C X w M E K KP w' e) y.defers .returning w':=by
    intro s X' c k h1 h2 o;obtain⟨ms,r,i,_⟩:=h2.defers;rw[r];refine nH (by simp) i fun V u=> ?_
    obtain⟨I,O,Q⟩:=Eu h2.sim m o i u;have L:InS C X' ⟨w.heap.size,[],false,none⟩ fn.ntmps s {y with defers:=[]} V c:={sim:=I,env:=fun t=>(h2.env t).move Q,size:=h2.size,defers:=BF,fix:=fun _ h=>by cases h}
    obtain⟨v,ps,W,Y,Z⟩:=Gp L G h1;exact⟨v,W,_,s.mem,c,Y,I.less k A.gG,O,Z.less k⟩
   cases e with
   |normal=>
    obtain⟨X',s,c,k,h1,h2,o⟩:=x;exact z s X' c k h1 h2 o
   |ret=>
    obtain⟨X',s,c,k,h1,h2,o⟩:=x;exact z s X' c k h1 h2 o
   |panic ch=>
    obtain⟨X',v,d,M',c,k,rfl,h1,h2,o,h4,h5,_⟩:=x;obtain⟨ms,r,i,_⟩:=h5
    show LeavesInM _ _ _ _ _ _ y.defers _ _
    rw[r];refine nH (by simp) i fun V u=> ?_
    obtain⟨I,O,Q⟩:=Eu h2 m o i u;exact⟨v,d,M',c,rfl,h1,I.less k A.gG,O,(h4.mono Q).weaken fun b J=>J.imp (k b) id⟩
   |exit id=>obtain⟨X',s,c,k,h1,_⟩:=x;exact h1.elim
   |goto l=>exact x.elim
   |outgrown=>exact x.elim
  ·cases hc
 ·cases hc
end
def mkRow (M:Mem)(q:Nat×Nat):Arr:=match M.aB[q.1]? with|some (some A)=>⟨A.sz,A.elems.drop q.2,0,A.st⟩| _=>default
def fO (M:Mem)(E:Emb)(q:Nat×Nat):Option (Nat×Nat×Nat):=match M.aB[q.1]?,E.ar[q.1]? with|some (some A),some (some (a,o,e))=>some (a,o+q.2*A.sz,e)| _,_=>none
def yY (M:Mem)(q:Nat×Nat):Bool:=match M.aB[q.1]? with|some (some A)=>decide (q.2<=A.elems.length)| _=>false
def I8:List (Nat×Nat)->Nat->Nat->Nat->Option Nat
 | [],_,_,_=>none
 |(a,b)::l,i,k,s=>bif a==k&&b==s then some i else I8 l (i+1) k s
def N9 (M:Mem)(L:List (Nat×Nat)):PV->PV
 | .d x=> .d x
 | .tsl k ver skip=>match M.row k ver,I8 L 0 k skip with|some _,some i=> .tsl i 0 0| _,_=> .dead
 | _=> .dead
def aei (M:Mem)(L:List (Nat×Nat)):PV->PV
 | .agg cs=> .agg (cs.map (N9 M L))
 |p=>N9 M L p
def ren (M:Mem)(L:List (Nat×Nat)):PV->PV
 | .agg cs=> .agg (cs.map (N9 M L))
 | .tup cs=> .tup (cs.map (aei M L))
 |p=>N9 M L p
def uP (M:Mem)(L:List (Nat×Nat)):Prop:=(∀q∈L,yY M q=true)/\(L.map (·.1)).Nodup
def Qu:∀{L:List (Nat×Nat)} {i k s j:Nat},I8 L i k s=some j->i<=j/\L[j - i]?=some (k,s)
 | [],i,k,s,j,h=>by simp[I8]at h
 |(a,b)::l,i,k,s,j,h=>by
  simp only[I8]at h;cases c:(a==k&&b==s)with
  |true=>
   rw[c]at h;simp only[cond_true,Option.some.injEq]at h;subst h;simp only[H,beq_iff_eq]at c;obtain⟨rfl,rfl⟩:=c;simp
  |false=>
   rw[c]at h;simp only[cond_false]at h;obtain⟨h1,h2⟩:=Qu h;refine⟨by omega,?_⟩;rw[show j - i=(j - (i+1))+1 by omega]
   simpa using h2
section
variable {C:Ctx}{X:Nat->Prop}{w:World}{M:Mem}{E:Emb}
variable{q:Nat×Nat}
def adM (h:yY M q=true):∃A,M.aB[q.1]?=some (some A)/\q.2<=A.elems.length/\mkRow M q=⟨A.sz,A.elems.drop q.2,0,A.st⟩:=by
 unfold yY at h
 split at h
 ·rename_i A a
  simp only[decide_eq_true_eq]at h;exact⟨A,a,h,by simp[mkRow,a]⟩
 ·cases h
def Fb {blk o e:Nat}(h:fO M E q=some (blk,o,e)):∃A o',M.aB[q.1]?=some (some A)/\E.ar[q.1]?=some (some (blk,o',e))/\o=o'+q.2*A.sz:=by
 unfold fO at h
 split at h
 ·rename_i A a o' d b c
  simp only[Option.some.injEq,Prod.mk.injEq]at h;obtain⟨rfl,rfl,rfl⟩:=h;exact⟨A,o',b,c,rfl⟩
 ·cases h
variable{L:List (Nat×Nat)}{i:Nat}
def LY {B:Arr}(d:uP M L)(h:(rowsOf (L.map (mkRow M))).aB[i]?=some (some B)):∃q A,L[i]?=some q/\M.aB[q.1]?=some (some A)/\q.2<=A.elems.length/\B=⟨A.sz,A.elems.drop q.2,0,A.st⟩:=by
 simp only[rowsOf,bR,ax,ae,bE]at h;obtain⟨q,b,a⟩:=h;simp only[Option.some.injEq]at a;obtain⟨A,h1,h2,c⟩:=adM (d.1 q (be b));exact⟨q,A,b,h1,h2,by rw[<-a,c]⟩
def xw (a:L[i]?=some q):(L.map (fO M E))[i]?=some (fO M E q):=by
 simp[a]
def JK (g:uP M L){b:Nat}(h:owned (rowsOf (L.map (mkRow M))) ⟨[],L.map (fO M E)⟩ b):owned M E b:=by
 rcases h with⟨i,cs,h1,_⟩|⟨i,B,o,e,h1,h2,c⟩
 ·simp[rowsOf]at h1
 ·obtain⟨q,A,f,a,m,rfl⟩:=LY g h1
  simp only[xw f,Option.some.injEq]at c;obtain⟨l,j,d,k,_⟩:=Fb c;rw[a]at d;cases d;exact .inr ⟨q.1,A,j,e,a,h2,k⟩
def Jh (h:Sim C X w M E)(c:uP M L):Sim C X w (rowsOf (L.map (mkRow M))) ⟨[],L.map (fO M E)⟩:=by
 have d:∀b,away X (rowsOf (L.map (mkRow M))) ⟨[],L.map (fO M E)⟩ b->away X M E b:=fun b f=>f.imp id (JK c)
 exact
  {glob:=h.glob,gG:=h.gG,xlt:=h.xlt
   fU:=rfl
   bn:=by simp[rowsOf]
   box:=fun b cs f=>by simp[rowsOf]at f
   arr:=fun i B n=>by
    obtain⟨q,A,g1,g2,g3,rfl⟩:=LY c n;obtain⟨y,s2,s3,z⟩:=h.arr q.1 A g2;refine⟨y,fun x u=>s2 x (List.mem_of_mem_drop u),fun t=> ?_,fun a o e k=> ?_⟩
    ·obtain⟨⟨a,o,e⟩,s⟩:=s3 t
     exact⟨(a,o+q.2*A.sz,e),by rw[xw g1];simp[fO,g2,s]⟩
    ·simp only[xw g1,Option.some.injEq]at k
     obtain⟨A',o',q1,q2,rfl⟩:=Fb k;rw[g2]at q1;cases q1;obtain⟨r1,vs,T,r2,r3,r4,r5⟩:=z a o' e q2;refine⟨r1,vs,T,r2,?_,r4,?_⟩
     ·simp only[bu]
      have:q.2*A.sz+(A.elems.length - q.2)*A.sz=A.elems.length*A.sz:=by rw[<-b0];congr 1;omega
      omega
     ·simp only[bu]
      exact(row_drop s2 r5).weaken d
   bb:=fun b F cs l a h1=>by simp[rowsOf]at h1
   aa:=fun i G B D a o e o' m h1 h2 g j=>by
    obtain⟨q,A,g1,g2,g3,rfl⟩:=LY c h1;obtain⟨v,A',g1',g2',g3',rfl⟩:=LY c h2;simp only[xw g1,Option.some.injEq]at g;simp only[xw g1',Option.some.injEq]at j;obtain⟨_,p1,_,p2,_⟩:=Fb g;obtain⟨_,p1',_,p2',_⟩:=Fb j;have r:=h.aa q.1 v.1 A A' a p1 e p1' m g2 g2' p2 p2';have p:i<(L.map (·.1)).length:=by simpa using(ai.1 g1).1
    refine(List.getElem?_inj p c.2).1 ?_;simp[g1,g1',r]
   ba:=fun b i cs B a o e h1=>by simp[rowsOf]at h1}
def DI {w₀:World}(hf:From w₀ bg ⟨[],[]⟩ w M E)(c:uP M L):From w₀ bg ⟨[],[]⟩ w (rowsOf (L.map (mkRow M))) ⟨[],L.map (fO M E)⟩:={
 os:=hf.os
 tape:=hf.tape
 output:=hf.output
 size:=hf.size
 keep:=hf.keep
 own:=fun b a=>hf.own b (JK c a)
 fU:=ap _
 bx:=fun b cs a=>by simp[bg]at a
 bn:=bz _
 ar:=fun k e d=>by simp[bg]at d}
def Oc (h:Sim C X w M E)(D:uP M L){v:Value}{p:PV}(q:Rep w (away X M E) M E v p):
  Rep w (away X (rowsOf (L.map (mkRow M))) ⟨[],L.map (fO M E)⟩) (rowsOf (L.map (mkRow M))) ⟨[],L.map (fO M E)⟩ v (N9 M L p):=by
 have f:∀b,away X (rowsOf (L.map (mkRow M))) ⟨[],L.map (fO M E)⟩ b->away X M E b:=fun b F=>F.imp id (JK D)
 cases p with
 |d x=>exact .d (q.toD.weaken f)
 |tsl k ver skip=>
  simp only[N9]
  split
  ·rename_i A i t G
   obtain⟨_,c⟩:=Qu G;simp only[bS]at c;obtain⟨t1,t2,R,S,N⟩:=EG h q t;obtain⟨a,cap,H⟩:=q.jF t;subst H;have g:mkRow M (k,skip)=⟨A.sz,A.elems.drop skip,0,A.st⟩:=by simp[mkRow,t1]
   have m:i<L.length:=(ai.1 c).1;refine .tsl (by simpa[rowsOf]using m) fun B u=> ?_
   have l:B=⟨A.sz,A.elems.drop skip,0,A.st⟩:=by
    simp only[rowsOf,bR,ax,c,Option.map_some,bE,Option.some.injEq]at u;rw[<-u,g]
   subst l;refine⟨ap _,fun _=>⟨_,xw c,bz _,?_⟩⟩
   rcases N with⟨j,o,e,U,T,s,r,I,O,P,Q,J⟩|⟨r,I,hd⟩
   ·have n:fO M E (k,skip)=some (j,o+skip*A.sz,e):=by simp[fO,t1,r]
    rw[n];simp only
    rcases J with⟨hh,y,K⟩|⟨y,_,z,hh⟩
    ·cases hh
     refine .inl ⟨cap,by simp,by simpa using y,?_⟩;simp only[bX];rw[Nat.add_assoc,<-b0];exact K
    ·refine .inr ⟨by simp;omega,z,?_⟩
     exact hh
   ·have n:fO M E (k,skip)=none:=by simp[fO,t1,r]
    rw[n]
    simpa using hd.weaken f
  ·exact .dead
 | _=>exact .dead
def JO {L:List (Nat×Nat)}(h:Sim C X w M E)(a:uP M L):∀{vs:List Value} {ps:List PV},aK w (away X M E) M E vs ps->
  aK w (away X (rowsOf (L.map (mkRow M))) ⟨[],L.map (fO M E)⟩) (rowsOf (L.map (mkRow M))) ⟨[],L.map (fO M E)⟩ vs (ps.map (N9 M L))
 | _,_, .nil=> .nil
 | _,_, .cons h1 t=> .cons (Oc h a h1) (JO h a t)
def aej (h:Sim C X w M E)(a:uP M L){v:Value}{p:PV}(b:Rep w (away X M E) M E v p):
  Rep w (away X (rowsOf (L.map (mkRow M))) ⟨[],L.map (fO M E)⟩) (rowsOf (L.map (mkRow M))) ⟨[],L.map (fO M E)⟩ v (aei M L p):=by
 cases p with
 |agg cs=>cases b with|agg hh=>exact .agg (JO h a hh)
 | _=>exact Oc h a b
def Qy {L:List (Nat×Nat)}(h:Sim C X w M E)(a:uP M L):∀{vs:List Value} {ps:List PV},aK w (away X M E) M E vs ps->
  aK w (away X (rowsOf (L.map (mkRow M))) ⟨[],L.map (fO M E)⟩) (rowsOf (L.map (mkRow M))) ⟨[],L.map (fO M E)⟩ vs (ps.map (aei M L))
 | _,_, .nil=> .nil
 | _,_, .cons h1 t=> .cons (aej h a h1) (Qy h a t)
def agM (h:Sim C X w M E)(a:uP M L){v:Value}{p:PV}(b:Rep w (away X M E) M E v p):
  Rep w (away X (rowsOf (L.map (mkRow M))) ⟨[],L.map (fO M E)⟩) (rowsOf (L.map (mkRow M))) ⟨[],L.map (fO M E)⟩ v (ren M L p):=by
 cases p with
 |agg cs=>cases b with|agg hh=>exact .agg (JO h a hh)
 |tup cs=>cases b with|tup hh=>exact .tup (Qy h a hh)
 | _=>exact Oc h a b
def AO {w:World}(d:C.G w)(hl:∀b,C.low b->X b)(hx:∀b,X b->b<w.heap.size):Sim C X w bg ⟨[],[]⟩:={
 glob:=d
 gG:=hl
 xlt:=hx
 fU:=rfl
 bn:=rfl
 box:=fun b cs h=>by simp[bg]at h
 arr:=fun k A h=>by simp[bg]at h
 bb:=fun b g cs c a h=>by simp[bg]at h
 aa:=fun k j A f a o e l i h=>by simp[bg]at h
 ba:=fun b k cs A a o e h=>by simp[bg]at h}
def ql:∀b,away X bg ⟨[],[]⟩ b->X b:=by
 rintro b (h|⟨i,cs,h,_⟩|⟨k,A,o,e,h,_⟩)
 ·exact h
 ·simp[bg]at h
 ·simp[bg]at h
def BH {f:FuncId}{ds:List DV}{r:PV}{ass:List Arr}(h:SC C f (ds.map .d) bg (fun p M=>∃L,uP M L/\ren M L p=r/\L.map (mkRow M)=ass) (fun _ _=>False)):Pure C f ds r ass:=by
 intro X w a l m o n;refine(h X w ⟨[],[]⟩ a (AO l m o) (aK.ofD (n.weaken ql))).mono fun e w' g=> ?_
 cases e with
 |returned v=>
  obtain⟨p,M',i,⟨L,b,rfl,rfl⟩,h2,j,k⟩:=g;exact⟨v,_,rfl,Jh h2 b,DI j b,agM h2 b k⟩
 |panicked c=>
  obtain⟨v,d,M',i,_,hh,_⟩:=g;exact hh.elim
 |outgrown=>exact g.elim
def VD (c:C.P.follows .mixedOrders=true){f:FuncId}{ds:List DV}{r:PV}{ass:List Arr}{pc:aA}{b:List iw}{a:Nat}(e:(ds.map PV.d).length=a)(hc:zL C.P f a pc b=true)
  (h:pwp C 0 0 pc (LG b (fun p M=>∃L,uP M L/\ren M L p=r/\L.map (mkRow M)=ass) (fun _ _=>False)) ⟨qw 0 (ds.map .d),bg⟩):Pure C f ds r ass:=
 BH (AL c e hc h)
def Gl (c:C.P.follows .mixedOrders=true){f:FuncId}{ds:List DV}{x:DV}{pc:aA}{b:List iw}{a:Nat}(e:(ds.map PV.d).length=a)(hc:zL C.P f a pc b=true)
  (h:pwp C 0 0 pc (LG b (fun p _=>p= .d x) (fun _ _=>False)) ⟨qw 0 (ds.map .d),bg⟩):Pure C f ds (.d x) []:=by
 refine BH (SC.mono (AL c e hc h) fun v M' i=>⟨[],⟨fun q g=>(by cases g),List.nodup_nil⟩,?_,rfl⟩);subst i
 rfl
end
end Go.Am
