/-
  Part 3 of a law of desks.
  Conditions: none.
-/
import Derived.Test.YtkbhljmmnbgloaaGreatDoorTopBetterM02
import Derived.RangeFuncRecord
import Derived.Sort.LoopGhostIn
set_option linter.all false
open Bool renaming and_eq_true->H,false_eq_true->U,and_eq_true_iff->Z,or_eq_true->aD,or_eq_false_iff->bc
open Array renaming getD_eq_getD_getElem?->S,getElem?_eq_getElem->an,getElem?_toList->aq,replicate->aw,getElem?_setIfInBounds_ne->az,getElem?_eq_some_iff->aE
open List renaming map_cons->W,map_nil->ab,getElem?_eq_some_iff->ai,pairwise_cons->am,getElem?_eq_getElem->ao,replicate->av,getElem?_map->ax,mem_cons->aM,all_eq_true->aR,range'_succ->a6,foldl_cons->a8,mem_of_getElem?->be,pairwise_append->bh,range'->bk,range_eq_range'->bl,map_congr_left->bo,getElem?_take->bp,range->bq,cons_append->br,length_cons->bt,length_drop->bu,length_take->bv,mem_append->bA,mapM_cons->bB,all_cons->bL,map_tail->bN,getD->bO,map_map->bR
open Iff renaming rfl->Y
open Option renaming map_eq_some_iff->ae,isNone_iff_eq_none->aL,getD_some->a7,bind_some->bw
open Nat renaming le_refl->ap,zero_le->bz,sub_zero->bS,zero_add->bX,add_mul->b0
open Function renaming comp->bE
open And renaming right->b5
namespace Go.Am
structure Lo where
 n:Nat
 ds:List Deferred
 ex:Bool
 fx:Option (Nat×Value)
section
variable {C:Ctx}{X:Nat->Prop}{w:World}{M:Mem}{E:Emb}{K:PV->Mem->Prop}{KP:DV->Mem->Prop}{lo:Lo}{ro:Option Nat}
def Uw {ρ:Operand->Value}(g:∀f,ρ (.func f)= .func (.func f) #[] #[])(e:∀v,ρ (.const v)=v){o:Oper}{op:Op}{p:POp}(ho:o.op=op){args:List PV}(d:Sim C X w M E)(c:aQ w (away X M E) M E ((opsOf o.op).map ρ) args)
  (b:aN C.P op p=true){base:Nat}(h:au C base p args M K KP):fB C X w M E K KP ((execOp ρ o).run C.P w):=by
 have a:=b;unfold aN at b
 split at b
 ·exact Yp (.inl ho) d c h
 ·exact Yp (.inr ho) d c h
 ·exact UM (.inl ho) d c h
 ·exact UM (.inr ho) d c h
 ·exact aeF ho d c h
 ·exact aaQ ho d a h
 ·exact agZ ho d c h
 ·exact aaR ho d c a h
 ·exact aeB ho d c a h
 ·exact UN ho d c b h
 ·exact aaV ho d c b h
 ·exact aa2 ho d c a h
 ·exact aa0 ho d c h
 ·exact agY ho d c a h
 ·exact aen ho d c a h
 ·exact aeo ho d c a h
 ·exact aaU ho e d c a h
 ·exact akp ho d c a h
 ·exact aep ho d c a h
 ·exact ag5 ho d c a h
 ·exact ag4 ho d c a h
 ·exact aeK ho d c a h
 ·exact UO ho d c a h
 ·exact XC ho d c a h
 ·exact aes ho d c a h
 ·exact aeu ho d c a h
 ·exact aev ho d c a h
 ·exact aew ho d c a h
 ·exact ag1 ho d c a h
 ·simp only[H,beq_iff_eq]at b
  obtain⟨rfl,b⟩:=b;exact zy ho (g _) c b h
 ·simp only[H,beq_iff_eq]at b
  obtain⟨rfl,b⟩:=b;exact zy ho (g _) c b (aac h)
 ·simp only[H,beq_iff_eq]at b
  obtain⟨rfl,b⟩:=b;exact zy ho (g _) c b (wX h)
 ·simp only[H,beq_iff_eq]at b
  obtain⟨rfl,b⟩:=b;exact zy ho (g _) c b (wX (XD h))
 ·simp only[H,beq_iff_eq]at b
  obtain⟨rfl,b⟩:=b;exact zy ho (g _) c b (TP h)
 ·simp only[H,beq_iff_eq]at b
  obtain⟨rfl,b⟩:=b;exact zy ho (g _) c b (wX (Nk h))
 ·exact aaS ho d c h
 ·exact Lc ho d c a h
 ·exact ael ho d c a h
 ·exact aem ho d c a h
 ·exact ag3 ho d c a h
 ·exact aey ho d c a h
 ·exact aex ho d a h
 ·subst b
  exact OU ho (.inl ⟨rfl,rfl⟩) d (by simpa[ho,opsOf]using c) h
 ·simp only[Bool.not_eq_true']at b
  subst b;exact OU ho (.inr ⟨rfl,rfl⟩) d (by simpa[ho,opsOf]using c) h
 ·exact aa1 ho d c h
 ·exact aaZ ho d c a h
 ·exact aaX ho d c a h
 ·exact ag6 ho d c a h
 ·exact agX ho d c a h
 ·exact ag8 ho d c a h
 ·exact aeI ho d c a h
 ·exact aeJ ho d c a h
 ·exact aer ho d c a h
 ·exact ag0 ho d c a h
 ·exact Yn ho e d c a h
 ·exact aeG ho d c a h
 ·exact aeE ho d c a h
 ·exact ag2 ho c a h
 ·exact ag7 ho d c a h
 ·exact aaW ho d h
 ·exact aeD ho d c a h
 ·exact Yo ho e d c a h
 ·exact aaT ho d c a h
 ·exact aeH ho d c a h
 ·exact aeA ho d c a h
 ·exact aeC ho d c a h
 ·exact aez ho d c a h
 ·exact aaY ho d c a h
 ·cases b
def Zv:Operand->Opd->Bool
 | .tmp m, .t k=>m==k
 | .const v, .c x=>mW x v
 | .func f, .c (.func (.func a) [] [])=>f==a
 | _,_=>false
def Oi:List Operand->List Opd->Bool
 | [],[]=>true
 |x::xs,y::ys=>Zv x y&&Oi xs ys
 | _,_=>false
def okM (n:Nat)(X:Nat->Prop)(ds:List Deferred)(w:World):Prop:=
 (∀d∈ds,∃D,d.target= .collected D/\n<=D/\X D/\w.heap[D]?=some (.deferred (some [])))/\ds.Pairwise (fun d a=>d.target≠a.target)
def okD (lo:Lo)(X:Nat->Prop)(ds:List Deferred)(w:World):Prop:=∃ms,ds=ms++lo.ds/\okM lo.n X ms w/\(lo.ex=true->ms=[])
def alH {n:Nat}{X:Nat->Prop}{w:World}:okM n X [] w:=⟨fun _ h=>by simp at h, .nil⟩
variable{ds:List Deferred}{ex:Bool}{fx:Option (Nat×Value)}
def EK {n:Nat}{X:Nat->Prop}{w:World}:okD ⟨n,ds,ex,fx⟩ X ds w:=⟨[],rfl,alH,fun _=>rfl⟩
def Sim.KA (h:Sim C X w M E){b:Nat}(ho:owned M E b):¬X b:=by
 rcases ho with⟨i,cs,h1,_,h2⟩|⟨k,A,o,e,h1,_,h2⟩
 ·obtain⟨c,a,d,_⟩:=h.box i cs h1
  rw[h2]at a;cases a;exact d
 ·exact((h.arr k A h1).2.2.2 _ _ _ h2).1
variable{w':World}
def okM.keep {n:Nat}(h:okM n X ds w)(hk:∀b o,X b->w.heap[b]?=some o->w'.heap[b]?=some o):okM n X ds w':=
 ⟨fun d hd=>by obtain⟨D,h1,h2,a,c⟩:=h.1 d hd;exact⟨D,h1,h2,a,hk D _ a c⟩,h.2⟩
def okD.keep {lo:Lo}{ds:List Deferred}{w':World}(h:okD lo X ds w)(hk:∀b o,X b->w.heap[b]?=some o->w'.heap[b]?=some o):okD lo X ds w':=by
 obtain⟨ms,h1,h2,a⟩:=h;exact⟨ms,h1,h2.keep hk,a⟩
def okD.from {lo:Lo}{M':Mem}{E':Emb}(h:okD lo X ds w)(a:Sim C X w M E)(hf:From w M E w' M' E'):okD lo X ds w':=
 h.keep fun b o e d=>hf.keep b o (fun c=>a.KA c e) d
def RF (ro:Option Nat):Fence:={Fence.wide with round:=ro}
variable{P:Program}{f:FuncId}
def QT {ro:Option Nat}{n:Nat}{args:Array Value}{w:World}{R:Ending->World->Prop}(h:Calls P f args w R):CallsIn (RF ro) n P f args w R:=(callsIn_wide (n:=n)).2 h
structure InS (C:Ctx) (X:Nat->Prop) (lo:Lo) (n:Nat) (s:St) (a:Act) (w:World) (E:Emb):Prop where
 sim:Sim C X w s.mem E
 env:∀t,Rep w (away X s.mem E) s.mem E (a.eval (.tmp t)) (look s.env t)
 size:a.tmps.size=n
 defers:okD lo X a.defers w
 fix:∀q,lo.fx=some q->a.eval (.tmp q.1)=q.2
variable{s:St}{a:Act}
def XR {n:Nat}(h:InS C X lo n s a w E){x:Operand}{y:Opd}(b:Zv x y=true):Rep w (away X s.mem E) s.mem E (a.eval x) (s.val y):=by
 unfold Zv at b
 split at b
 ·simp only[beq_iff_eq]at b;subst b;exact h.env _
 ·exact .d (mG b)
 ·simp only[beq_iff_eq]at b
  subst b;exact .d (.func .nil .nil)
 ·cases b
def aav {n:Nat}{s:St}{a:Act}(h:InS C X lo n s a w E):∀{xs:List Operand} {ys:List Opd},Oi xs ys=true->aQ w (away X s.mem E) s.mem E (xs.map a.eval) (ys.map s.val)
 | [],[],_=> .nil
 |x::xs,y::ys,b=>by
  simp only[Oi,H]at b;exact .cons (XR h b.1) (aav h b.2)
 | [],_::_,b=>by simp[Oi]at b
 | _::_,[],b=>by simp[Oi]at b
def sO {d t:Nat}{v:Value}:(a.put (some d) v).eval (.tmp t)=if t=d/\d<a.tmps.size then v else a.eval (.tmp t):=by
 simp only[Act.put,Act.eval,S,Array.getElem?_setIfInBounds]
 by_cases h:d=t
 ·subst h
  by_cases h2:d<a.tmps.size
  ·simp[h2]
  ·simp[h2]
 ·have:¬t=d:=fun e=>h e.symm
  simp[h,this]
def InS.put {n:Nat}{s:St}{a:Act}{M':Mem}{w':World}{E':Emb}(h:InS C X lo n s a w E)(f:Sim C X w' M' E')(hf:From w s.mem E w' M' E'){dst:Option Nat}(b:∀q,lo.fx=some q->dst≠some q.1)(hd:dst.all (·<n)=true){v:Value}{p:PV}
  (g:dst.isSome=true->Rep w' (away X M' E') M' E' v p):InS C X lo n ⟨put s.env dst p,M'⟩ (a.put dst v) w' E':={
 sim:=f
 env:=fun t=>by
  cases dst with
  |none=>simpa[Am.put,Act.put]using(h.env t).from hf
  |some d=>
   simp only[Option.all_some,decide_eq_true_eq]at hd;rw[sO];simp only[Am.put,look]
   by_cases hdt:t=d
   ·subst hdt
    simp only[beq_self_eq_true,cond_true,true_and,h.size,hd,if_true];exact g rfl
   ·have:(d==t)=false:=by simp;exact fun e=>hdt e.symm
    simp only[this,cond_false,hdt,false_and,if_false];exact(h.env t).from hf
 size:=by cases dst<;>simp[Act.put,h.size]
 defers:=by
  have:(a.put dst v).defers=a.defers:=by cases dst<;>rfl
  rw[this];exact h.defers.from h.sim hf
 fix:=fun q c=>by
  cases dst with
  |none=>exact h.fix q c
  |some d=>
   rw[sO,if_neg fun hh=>b q c (by rw[<-hh.1])];exact h.fix q c}
def InS.later {n:Nat}{s:St}{a:Act}{w':World}(h:InS C X lo n s a w E)(hl:Later w w'):InS C X lo n s a w' E:={
 sim:=h.sim.later hl
 env:=fun t=>(h.env t).from (hl.from s.mem E)
 size:=h.size
 defers:=h.defers.from h.sim (hl.from s.mem E)
 fix:=h.fix}
def Post (C:Ctx)(X:Nat->Prop)(n:Nat)(w₀:World)(M₀:Mem)(E₀:Emb)(c:List Deferred)(ex:Bool)(fx:Option (Nat×Value))(Q:Ex->St->Prop):Exit->Act->World->Prop
 | .normal,a,w=>∃(X':Nat->Prop) (s:St) (E:Emb),(∀b,X b->X' b)/\Q .normal s/\InS C X' ⟨w₀.heap.size,c,ex,fx⟩ n s a w E/\From w₀ M₀ E₀ w s.mem E
 | .exit id,a,w=>∃(X':Nat->Prop) (s:St) (E:Emb),(∀b,X b->X' b)/\Q (.exit id) s/\InS C X' ⟨w₀.heap.size,c,ex,fx⟩ n s a w E/\From w₀ M₀ E₀ w s.mem E
 | .ret,a,w=>∃(X':Nat->Prop) (s:St) (E:Emb),(∀b,X b->X' b)/\Q .ret s/\InS C X' ⟨w₀.heap.size,c,ex,fx⟩ n s a w E/\From w₀ M₀ E₀ w s.mem E
 | .panic chain,a,w=>∃(X':Nat->Prop) (v:Value) (d:DV) (M:Mem) (E:Emb),(∀b,X b->X' b)/\chain=[{v,recovered:=false}]/\Q (.panic d) ⟨[],M⟩/\Sim C X' w M E/\From w₀ M₀ E₀ w M E/\bK w (away X' M E) v d/\okD ⟨w₀.heap.size,c,ex,fx⟩ X' a.defers w/\(∀q,fx=some q->a.eval (.tmp q.1)=q.2)
 | _,_,_=>False
def Post.up {X':Nat->Prop}{n:Nat}{w₀:World}{M₀:Mem}{E₀:Emb}{i:List Deferred}{Q:Ex->St->Prop}(hx:∀b,X b->X' b){e:Exit}{a:Act}(h:Post C X' n w₀ M₀ E₀ i ex fx Q e a w):Post C X n w₀ M₀ E₀ i ex fx Q e a w:=by
 cases e with
 |normal=>obtain⟨f,s,E,h1,h2⟩:=h;exact⟨f,s,E,fun b g=>h1 b (hx b g),h2⟩
 |exit id=>obtain⟨f,s,E,h1,h2⟩:=h;exact⟨f,s,E,fun b g=>h1 b (hx b g),h2⟩
 |ret=>obtain⟨f,s,E,h1,h2⟩:=h;exact⟨f,s,E,fun b g=>h1 b (hx b g),h2⟩
 |panic c=>obtain⟨f,v,d,M,E,h1,h2⟩:=h;exact⟨f,v,d,M,E,fun b g=>h1 b (hx b g),h2⟩
 |goto l=>exact h.elim
 |outgrown=>exact h.elim
def Xj {op:Op}{p:POp}(h:aN P op p=true):∀c,op≠ .defer c:=by
 rintro c rfl;simp[aN]at h
def adF (ops:Array Oper)(g:Option (Nat×Bool))(c:Option (Nat×Bool)):Bool:=
 match g,c with
 |none,none=>true
 |some (j,b),some (t,a)=>b==a&&decide ((ops[j]?).bind (·.dst)=some t)
 | _,_=>false
def aiG (P:Program)(n:Nat)(ops:Array Oper)(o:Oper)(p:PO):Bool:=
 aN P o.op p.op&&Oi (opsOf o.op) p.args&&decide (o.dst=p.dst)&&p.dst.all (·<n)&&adF ops o.guard p.g
def PO.plain (p:PO):PO:=match p.op with| .Fp _ _ f=>{p with op:= .call f,args:=p.args.tail}| .KY f=>{p with op:= .call f}| _=>p
def POp.noK:POp->Bool| .Fp _ _ _=>false| .KY _=>false| _=>true
def aiF (P:Program)(n:Nat)(ops:Array Oper)(o:Oper)(p:PO):Bool:=aiG P n ops o p.plain&&(decide (p.fl=0)||p.op.noK)
def SC.mono {f:FuncId}{args:List PV}{M:Mem}{K d:PV->Mem->Prop}{KP:DV->Mem->Prop}(h:SC C f args M K KP)(hk:∀v M',K v M'->d v M'):SC C f args M d KP:=by
 intro X w E a j i;refine(h X w E a j i).mono fun e w' b=> ?_
 cases e with
 |returned v=>
  obtain⟨p,M',g,h1,h2⟩:=b;exact⟨p,M',g,hk _ _ h1,h2⟩
 |panicked c=>exact b
 |outgrown=>exact b
variable{agg:Bool}
def alx {n:Nat}{x:PV}{M:Mem}{K:PV->Prop}(h:bY agg n x M K):∃v,K v:=by
 unfold bY at h
 split at h
 ·split at h
  ·exact⟨_,h.2⟩
  ·exact h.elim
 ·exact⟨_,h.2⟩
 ·split at h
  ·exact⟨_,h.2⟩
  ·exact h.elim
 ·exact h.elim
variable{base:Nat}
def QS {n:Nat}{args:List PV}(h:au C base (.Fp agg n f) args M K KP):au C base (.call f) args.tail M K KP:=by
 cases args with
 |nil=>simp only[au]at h
 |cons a b=>
  simp only[au]at h;obtain⟨v,h⟩:=alx h;simp only[au,List.tail_cons];exact SC.mono h fun p M' hh=>hh.2
def afT {p:PO}{K:St->Prop}(h:eH C base p K KP s)(b:p.plain.op=p.op\/yu base p.fl (p.args.tail.map s.val)):eH C base p.plain K KP s:=by
 unfold PO.plain at b⊢
 split
 ·rename_i agg n f a
  have b:=b.resolve_left (by rw[a];simp);unfold eH at h⊢;simp only;cases c:p.g with
  |none=>
   rw[c]at h;simp only[a]at h⊢;refine⟨b,?_⟩;have:=QS h.2
   rwa [<-bN]at this
  |some q=>
   rw[c]at h;obtain⟨t,e⟩:=q;simp only[a]at h⊢
   split at h
   ·refine⟨fun i=>⟨b,?_⟩,h.2⟩
    have:=QS (h.1 i).2
    rwa [<-bN]at this
   ·exact h
   ·exact h.elim
 ·rename_i f a
  have d:∀{j:PV->Mem->Prop},au C base (.KY f) (p.args.map s.val) s.mem j KP->au C base (.call f) (p.args.map s.val) s.mem j KP:=fun⟨_,h1,_,k⟩=>SC.mono h1 k
  unfold eH at h⊢;simp only;cases c:p.g with
  |none=>
   rw[c]at h;simp only[a]at h⊢;exact⟨h.1,d h.2⟩
  |some q=>
   rw[c]at h;obtain⟨t,e⟩:=q;simp only[a]at h⊢
   split at h
   ·exact⟨fun i=>⟨(h.1 i).1,d (h.1 i).2⟩,h.2⟩
   ·exact h
   ·exact h.elim
 ·exact h
variable{ops:Array Oper}
def afP {n:Nat}(ac:∀q,lo.fx=some q->∀o∈ops,o.dst≠some q.1){i:Nat}{o:Oper}{p:PO}(hi:ops[i]?=some o)(Y:aiG C.P n ops o p=true){s:St}{a:Act}(h:InS C X lo n s a w E){base:Nat}{K:St->Prop}{KP:DV->Mem->Prop}
  (B:eH C base p K KP s){next:Act->World->Prop}{Q:Exit->Act->World->Prop}
  (O:∀s' N w' E',K s'->InS C X lo n s' N w' E'->From w s.mem E w' s'.mem E'->next N w')
  (G:∀d M' N w' E' v,KP d M'->Sim C X w' M' E'->From w s.mem E w' M' E'->bK w' (away X M' E') v d->okD lo X N.defers w'->(∀q,lo.fx=some q->N.eval (.tmp q.1)=q.2)->Q (.panic [{v,recovered:=false}]) N w'):
  wpOpIn (RF ro) 0 C.P ops Q i next a w:=by
 simp only[aiG,H,decide_eq_true_eq]at Y;obtain⟨⟨⟨⟨hk,ha⟩,hd⟩,R⟩,W⟩:=Y;have hA:=aav h ha;have g:∀q,lo.fx=some q->p.dst≠some q.1:=fun q T=>by rw[<-hd];exact ac q T o (Array.mem_of_getElem? hi)
 have D:au C base p.op (p.args.map s.val) s.mem (fun v M=>K ⟨put s.env p.dst v,M⟩) KP->o.wpIn (RF ro) 0 C.P a w next Q:=by
  intro ae;have:=Uw (ρ:=a.eval) (fun f=>rfl) (fun v=>rfl) (o:=o) rfl h.sim hA hk ae;unfold Oper.wpIn;refine⟨fun _ _=>trivial,?_⟩;rw[Oper.semAt_eq _ _ _ (Xj hk)];generalize (execOp a.eval o).run C.P w=r at this;cases r with
  |ok nx w'=>
   cases nx with
   |value v=>
    obtain⟨pv,M',E',h1,h2,V,h4⟩:=this;simp only[Oper.uponIn_value];rw[hd];exact O _ _ _ _ h1 (h.put h2 V g R (fun _=>h4)) V
   |skip=>
    obtain⟨M',E',h1,h2,V⟩:=this;simp only[Oper.uponIn_skip];rw[hd];exact O _ _ _ _ h1 (h.put h2 V g R (fun _=> .dead)) V
   |enter f args=>
    obtain⟨rfl,ps,h1,h2⟩:=this;simp only[Oper.uponIn_enter];have:=h1 X w' E args.toList h.sim h2;refine⟨fun h=>by simp[RF,Fence.wide]at h,CallsIn.mono (QT (ro:=ro) (by simpa using this)) fun e L I=> ?_⟩;cases e with
    |returned v=>
     obtain⟨pv,M',E',m,y,b,z⟩:=I
     show next (a.put o.dst v) L
     rw[hd];exact O _ _ _ _ m (h.put y b g R (fun _=>z)) b
    |panicked chain=>
     obtain⟨v,d,M',E',rfl,m,y,b,z⟩:=I;exact G _ _ _ _ _ _ m y b z (h.defers.from h.sim b) h.fix
    |outgrown=>exact I.elim
   |round l f am an body=>
    obtain⟨rfl,h1⟩:=this;simp only[Oper.uponIn_round];refine⟨fun h=>by simp[RF,Fence.wide]at h,RoundIn.mono (F:=RF ro) (n:=0 - 1) h1 fun e L I=> ?_⟩;cases e with
    |returned v=>
     obtain⟨pv,M',E',m,y,b,z⟩:=I
     show next (a.put o.dst v) L
     rw[hd];exact O _ _ _ _ m (h.put y b g R (fun _=>z)) b
    |panicked chain=>
     obtain⟨v,d,M',E',rfl,m,y,b,z⟩:=I;exact G _ _ _ _ _ _ m y b z (h.defers.from h.sim b) h.fix
    |outgrown=>exact I.elim
   | _=>exact this.elim
  |halt x w'=>
   cases x with
   |panic v=>
    obtain⟨d,M',E',m,y,b,z⟩:=this;exact G _ _ _ _ _ _ m y b z (h.defers.from h.sim b) h.fix
   | _=>exact this.elim
 unfold wpOpIn;simp only[hi];unfold eH at B;unfold adF at W
 split at W
 ·rename_i A J
  simp only[J]at B;have hw:Region.wanted o (yielded ops a.tmps)=true:=by simp[Region.wanted,A]
  simp only[hw,if_true];exact D B.2
 ·rename_i j c t ai A J
  simp only[H,beq_iff_eq,decide_eq_true_eq]at W;obtain⟨rfl,hj⟩:=W;simp only[J]at B
  split at B
  ·rename_i x hx
   obtain⟨r1,r2⟩:=B;have Z:=h.env t;rw[hx]at Z;have k:=Z.toD.nT;have hy:yielded ops a.tmps j=some x:=by
    simp only[yielded,hj,bw];simp only[Act.eval,S]at k;cases T:a.tmps[t]? with
    |none=>rw[T]at k;simp[undef]at k
    |some u=>rw[T]at k;simp at k;simp[k]
   have hw:Region.wanted o (yielded ops a.tmps)=(x==c):=by simp[Region.wanted,A,hy]
   rw[hw]
   by_cases ab:x=c
   ·subst ab
    simp only[beq_self_eq_true,if_true];exact D (r1 rfl).2
   ·have:(x==c)=false:=by simp[ab]
    simp only[this,U,if_false];rw[hd];refine⟨fun _ _=>trivial,?_⟩;exact O _ _ _ _ (r2 (by cases x<;>cases c<;>simp_all)) (h.put h.sim (.refl _ _ _) g R (fun _=> .d (.tup .nil))) (.refl _ _ _)
  ·rename_i hx
   have Z:=h.env t;rw[hx]at Z;have hy:yielded ops a.tmps j=none:=by
    simp only[yielded,hj,bw];have k:=Z.toD;simp only[Act.eval,S]at k;cases T:a.tmps[t]? with
    |none=>rfl
    |some u=>
     rw[T]at k;simp only[a7]at k;cases k
     rfl
   have hw:Region.wanted o (yielded ops a.tmps)=false:=by simp[Region.wanted,A,hy]
   simp only[hw,U,if_false];rw[hd];refine⟨fun _ _=>trivial,?_⟩;exact O _ _ _ _ B (h.put h.sim (.refl _ _ _) g R (fun _=> .d (.tup .nil))) (.refl _ _ _)
  ·exact B.elim
 ·cases W
def ZA {n:Nat}(j:∀q,lo.fx=some q->∀o∈ops,o.dst≠some q.1){i:Nat}{o:Oper}{p:PO}(hi:ops[i]?=some o)(b:aiF C.P n ops o p=true){s:St}{a:Act}(h:InS C X lo n s a w E){base:Nat}{K:St->Prop}{KP:DV->Mem->Prop}
  (m:eH C base p K KP s){next:Act->World->Prop}{Q:Exit->Act->World->Prop}
  (l:∀k e w' E',K k->InS C X lo n k e w' E'->From w s.mem E w' k.mem E'->next e w')
  (g:∀d M' e w' E' v,KP d M'->Sim C X w' M' E'->From w s.mem E w' M' E'->bK w' (away X M' E') v d->okD lo X e.defers w'->(∀q,lo.fx=some q->e.eval (.tmp q.1)=q.2)->Q (.panic [{v,recovered:=false}]) e w'):
  wpOpIn (RF ro) 0 C.P ops Q i next a w:=by
 simp only[aiF,H,aD,decide_eq_true_eq]at b;refine afP j hi b.1 h (afT m ?_) l g
 rcases b.2 with h2|h2
 ·exact .inr (by rw[h2];trivial)
 ·refine .inl ?_
  unfold PO.plain
  split
  ·rename_i agg n f c
   rw[c]at h2;cases h2
  ·rename_i f c
   rw[c]at h2;cases h2
  ·rfl
def Vq {n:Nat}{ops:Array Oper}(e:∀q,lo.fx=some q->∀o∈ops,o.dst≠some q.1){base:Nat}{K:St->Prop}{KP:DV->Mem->Prop}{Q:Exit->Act->World->Prop}{w₀:World}{M₀:Mem}{E₀:Emb}
  (u:∀g b w' E',K g->InS C X lo n g b w' E'->From w₀ M₀ E₀ w' g.mem E'->Q .normal b w')
  (c:∀d M' b w' E' v,KP d M'->Sim C X w' M' E'->From w₀ M₀ E₀ w' M' E'->bK w' (away X M' E') v d->okD lo X b.defers w'->(∀q,lo.fx=some q->b.eval (.tmp q.1)=q.2)->Q (.panic [{v,recovered:=false}]) b w'):
  ∀(ps:List PO) (k:Nat),(∀(j:Nat) (p:PO),ps[j]?=some p->∃o,ops[k+j]?=some o/\aiF C.P n ops o p=true)->∀(s:St) (a:Act) (w:World) (E:Emb),InS C X lo n s a w E->From w₀ M₀ E₀ w s.mem E->
   wK C base ps K KP s->wpOpsIn (RF ro) 0 C.P ops Q (bk k ps.length) a w
 | [],_,_,s,a,w,E,h,i,r=>by
  simp only[List.length_nil,List.range'_zero,wpOpsIn];exact u s a w E r h i
 |p::ps,k,f,s,a,w,E,h,i,r=>by
  simp only[bt,a6];rw[wpOpsIn_cons];obtain⟨o,A,B⟩:=f 0 p rfl;refine ZA e A B h r (fun g b w' E' t m l=> ?_) (fun d M' b w' E' v h1 h2 x y z=>c d M' b w' E' v h1 h2 (i.trans x) y z);refine Vq e u c ps (k+1) (fun j q D=> ?_) g b w' E' m (i.trans l) t;obtain⟨F,h1,h2⟩:=f (j+1) q (by simpa using D);exact⟨F,by rw[show k+1+j=k+(j+1) by omega];exact h1,h2⟩
def L9 (P:Program)(n:Nat)(ops:Array Oper):List Oper->List PO->Bool
 | [],[]=>true
 |o::os,p::a=>aiF P n ops o p&&L9 P n ops os a
 | _,_=>false
def IU {P:Program}{n:Nat}{ops:Array Oper}:∀{os:List Oper} {ps:List PO},L9 P n ops os ps=true->os.length=ps.length/\∀(j:Nat) (p:PO),ps[j]?=some p->∃o,os[j]?=some o/\aiF P n ops o p=true
 | [],[],_=>⟨rfl,fun j p h=>by simp at h⟩
 |o::os,p::ps,h=>by
  simp only[L9,H]at h;obtain⟨h1,h2⟩:=IU h.2;refine⟨by simp[h1],fun j q a=> ?_⟩;cases j with
  |zero=>simp at a;subst a;exact⟨o,rfl,h.1⟩
  |succ j=>simpa using h2 j q (by simpa using a)
 | [],_::_,h=>by simp[L9]at h
 | _::_,[],h=>by simp[L9]at h
def XW {n:Nat}(e:∀q,lo.fx=some q->∀o∈ops,o.dst≠some q.1){ps:List PO}(f:L9 C.P n ops ops.toList ps=true){base:Nat}{K:St->Prop}{KP:DV->Mem->Prop}{Q:Exit->Act->World->Prop}
  {s:St}{a:Act}{w₀:World}{M₀:Mem}{E₀:Emb}(h:InS C X lo n s a w E)(hf:From w₀ M₀ E₀ w s.mem E)(r:wK C base ps K KP s)
  (l:∀g b w' E',K g->InS C X lo n g b w' E'->From w₀ M₀ E₀ w' g.mem E'->Q .normal b w')
  (c:∀d M' b w' E' v,KP d M'->Sim C X w' M' E'->From w₀ M₀ E₀ w' M' E'->bK w' (away X M' E') v d->okD lo X b.defers w'->(∀q,lo.fx=some q->b.eval (.tmp q.1)=q.2)->Q (.panic [{v,recovered:=false}]) b w'):
  wpOpsIn (RF ro) 0 C.P ops Q (bq ops.size) a w:=by
 obtain⟨h1,h2⟩:=IU f;have:=Vq (ro:=ro) (C:=C) (X:=X) e l c ps 0 (fun j p m=>by
  obtain⟨o,i,k⟩:=h2 j p m;exact⟨o,by simpa using i,k⟩) s a w E h hf r
 rw[bl,show ops.size=ps.length by simpa using h1];exact this
end
section
variable {C:Ctx}{X:Nat->Prop}{w:World}{M:Mem}{E:Emb}{lo:Lo}
def iM {α:Type}{l:List α}{n i:Nat}{x:α}(h:(l.take n)[i]?=some x):i<n/\l[i]?=some x:=by
 rw[bp]at h
 split at h
 ·rename_i hi;exact⟨hi,h⟩
 ·cases h
def gZ {α:Type}{l:List α}{n i:Nat}(h:i<n):(l.take n)[i]?=l[i]?:=by
 rw[bp,if_pos h]
def SQ {n m:Nat}{b:Nat}(h:owned ⟨M.boxes.take n,M.fz.filter (fun b=>decide (b<n)),M.aC.take m⟩ ⟨E.bx.take n,E.ar.take m⟩ b):owned M E b:=by
 rcases h with⟨i,cs,h1,h2,a⟩|⟨k,A,o,e,h1,h2,a⟩
 ·exact .inl ⟨i,cs,(iM h1).2,fun hi=>h2 (List.mem_filter.2 ⟨hi,by simpa using(iM h1).1⟩),(iM a).2⟩
 ·exact .inr ⟨k,A,o,e,(iM h1).2,h2,(iM a).2⟩
def IC {n m:Nat}:∀b,away X ⟨M.boxes.take n,M.fz.filter (fun b=>decide (b<n)),M.aC.take m⟩ ⟨E.bx.take n,E.ar.take m⟩ b->away X M E b:=fun _ h=>h.imp id SQ
mutual
def Rep.take {n m:Nat}{O O':Nat->Prop}(f:∀b,O' b->O b):∀{v:Value} {p:PV},p.upto n m=true->Rep w O M E v p->Rep w O' ⟨M.boxes.take n,M.fz.filter (fun b=>decide (b<n)),M.aC.take m⟩ ⟨E.bx.take n,E.ar.take m⟩ v p
 | _,_,_, .d h=> .d (h.weaken f)
 | _,_,a, .ptr j i k=>by
  simp only[PV.upto,decide_eq_true_eq]at a;exact .ptr (by simp only[gZ a];exact j) (by simp only[gZ a];exact i) k
 | _,_,a, .mref j i k=>by
  simp only[PV.upto,decide_eq_true_eq]at a;exact .mref (by simp only[gZ a];exact j) (by simp only[gZ a];exact i) k
 | _,_,a, .mV j i k=>by
  simp only[PV.upto,decide_eq_true_eq]at a;exact .mV (by simp only[gZ a];exact j) (by simp only[gZ a];exact i) k
 | _,_,a, .zT j i k=>by
  simp only[PV.upto,decide_eq_true_eq]at a;exact .zT (by simp only[gZ a];exact j) (by simp only[gZ a];exact i) k
 | _,_,a, .jX r h=>by
  simp only[PV.upto,decide_eq_true_eq]at a;refine .jX (by simp;omega) fun A e=> ?_
  simp only[gZ a]at e⊢;obtain⟨l,o⟩:=h A e;refine⟨l,fun s=> ?_⟩;obtain⟨c,t,u,g⟩:=o s;refine⟨c,t,u,?_⟩;cases c with
  |none=>exact bK.weaken f g
  |some q=>exact g
 | _,_,a, .tsl r h=>by
  simp only[PV.upto,decide_eq_true_eq]at a;refine .tsl (by simp;omega) fun A e=> ?_
  simp only[gZ a]at e⊢;obtain⟨l,o⟩:=h A e;refine⟨l,fun s=> ?_⟩;obtain⟨c,t,u,g⟩:=o s;refine⟨c,t,u,?_⟩;cases c with
  |none=>exact bK.weaken f g
  |some q=>exact g
 | _,_,a, .psl r h=>by
  simp only[PV.upto,decide_eq_true_eq]at a;refine .psl (by simp;omega) fun A e=> ?_
  simp only[gZ a]at e⊢;obtain⟨l,o⟩:=h A e;refine⟨l,fun s=> ?_⟩;obtain⟨c,t,u,g⟩:=o s;refine⟨c,t,u,?_⟩;cases c with
  |none=>exact bK.weaken f g
  |some q=>exact g
 | _,_,_, .dead=> .dead
 | _,_,a, .func h1 h2=>by
  simp only[PV.upto,H]at a;exact .func (aQ.VO f a.1 h1) (aQ.VO f a.2 h2)
 | _,_,a, .agg h=>by
  simp only[PV.upto]at a;exact .agg (aQ.VO f a h)
 | _,_,a, .tup h=>by
  simp only[PV.upto]at a;exact .tup (aQ.VO f a h)
def aQ.VO {n m:Nat}{O O':Nat->Prop}(c:∀b,O' b->O b):∀{v:List Value} {p:List PV},NG n m p=true->aQ w O M E v p->aQ w O' ⟨M.boxes.take n,M.fz.filter (fun b=>decide (b<n)),M.aC.take m⟩ ⟨E.bx.take n,E.ar.take m⟩ v p
 | _,_,_, .nil=> .nil
 | _,_,a, .cons h t=>by
  simp only[NG,H]at a;exact .cons (Rep.take c a.1 h) (aQ.VO c a.2 t)
end
def aau {n m:Nat}:∀{cs:List PV},(∀c∈cs,c.upto n m=true)->NG n m cs=true
 | [],_=>rfl
 |c::cs,h=>by
  simp only[NG,H];exact⟨h c (by simp),aau fun d hd=>h d (by simp[hd])⟩
def InS.frz {k:Nat}{s:St}{a:Act}{t:Nat}{d:DV}(h:InS C X lo k s a w E)(hd:datum s.mem (look s.env t)=some d):
  InS C X lo k ⟨(t, .d d)::s.env,s.mem.frz [look s.env t]⟩ a w E/\From w s.mem E w (s.mem.frz [look s.env t]) E:=by
 have b:=mX (M:=s.mem) (E:=E) [look s.env t] w;refine⟨{sim:=mP h.sim _,size:=h.size,defers:=h.defers,fix:=h.fix,env:=fun u=> ?_},b⟩;simp only[look]
 by_cases c:t=u
 ·subst c
  simp only[beq_self_eq_true,cond_true];exact .d (jB h.sim (h.env t) hd (by simp))
 ·have:(t==u)=false:=by simp[c]
  simp only[this,cond_false];exact(h.env u).from b
variable{k:Nat}{s:St}{a:Act}
def acT {nb na:Nat}{y:St}{w₀:World}{M₀:Mem}{E₀:Emb}(h:InS C X lo k s a w E)(hf:From w₀ M₀ E₀ w s.mem E)(hb:M₀.boxes.length<=nb)(R:M₀.aC.length<=na)(hw:Weak nb na s y):
  ∃E',InS C X lo k y a w E'/\From w₀ M₀ E₀ w y.mem E':=by
 rcases hw with rfl|hw|⟨t,d,hd,rfl⟩
 ·exact⟨E,h,hf⟩
 rotate_left
 ·obtain⟨h1,h2⟩:=h.frz hd
  exact⟨E,h1,hf.trans h2⟩
 obtain⟨n,m,U,S,l,v,r⟩:=hw;obtain⟨I,J⟩:=y;simp only at l;subst l;refine⟨⟨E.bx.take n,E.ar.take m⟩,?_,?_⟩
 ·exact
   {size:=h.size,defers:=h.defers,fix:=h.fix
    env:=fun t=>by
     rcases v t with hd|⟨u,G⟩
     ·simp only at hd⊢;rw[hd];exact .dead
     ·simp only at u G⊢
      rw[u]at G⊢;exact(h.env t).take IC G
    sim:=
     {glob:=h.sim.glob,iF:=h.sim.iF,xlt:=h.sim.xlt
      iE:=by simp[h.sim.iE]
      bC:=by simp[h.sim.bC]
      box:=fun b cs g=>by
       obtain⟨h1,h2⟩:=iM g;obtain⟨f,q1,q2,q3⟩:=h.sim.box b cs h2;refine⟨f,by rw[gZ h1];exact q1,q2,q3.move (fun _ D=>D) (fun b o hb D=>⟨D,fun h=>hb (IC b h)⟩) fun vs V F H=>H.VO IC (aau fun c M=> ?_)⟩;exact r (some cs) (be g) c (by simpa using F c M)
      arr:=fun j A x=>by
       obtain⟨h1,h2⟩:=iM x;obtain⟨q1,q2,q3,H⟩:=h.sim.arr j A h2;refine⟨q1,q2,fun O=>by rw[gZ h1];exact q3 O,fun f o e u=> ?_⟩;rw[gZ h1]at u;obtain⟨r1,vs,T,r2,r3,r4,r5⟩:=H f o e u;exact⟨r1,vs,T,r2,r3,r4,r5.weaken IC⟩
      bb:=fun b K cs cs' f h1 h2 p q=>h.sim.bb b K cs cs' f (iM h1).2 (iM h2).2 (iM p).2 (iM q).2
      aa:=fun j P A z f o e Q L h1 h2 p q=>h.sim.aa j P A z f o e Q L (iM h1).2 (iM h2).2 (iM p).2 (iM q).2
      ba:=fun b j cs A f o e h1 h2 p q=>h.sim.ba b j cs A f o e (iM h1).2 (iM h2).2 (iM p).2 (iM q).2}}
 ·exact
   {os:=hf.os,tape:=hf.tape,output:=hf.output,size:=hf.size,keep:=hf.keep
    own:=fun b B=>hf.own b (SQ B)
    iE:=by have:=hf.iE;simp only[bv];omega
    bx:=fun b cs g=>by
     have i:b<n:=Nat.lt_of_lt_of_le (ai.1 g).1 (by omega);obtain⟨h1,cs',h2,p⟩:=hf.bx b cs g;exact⟨by rw[gZ i];exact h1,cs',by rw[gZ i];exact h2,p⟩
    bC:=by have:=hf.bC;simp only[bv];omega
    ar:=fun j z N x=>by
     have i:j<m:=by omega
     rw[gZ i]at x⊢;exact hf.ar j z N x}
def O8 {k:Nat}{K:St->Prop}:∀{ts:List Nat} {s:St} {a:Act},sQ ts K s->InS C X lo k s a w E->∃b,K b/\InS C X lo k b a w E/\From w s.mem E w b.mem E
 | [],s,a,h,hi=>⟨s,h,hi, .refl _ _ _⟩
 |t::ts,s,a,h,hi=>by
  simp only[sQ]at h
  split at h
  ·rename_i d hd
   obtain⟨h1,h2⟩:=hi.frz hd;obtain⟨b,c,e,f⟩:=O8 h h1;exact⟨b,c,e,h2.trans f⟩
  ·exact h.elim
def EH {l:List (Nat×PV)}:∀{ks:List Nat} (t:Nat),look (iq l ks) t=look l t\/look (iq l ks) t= .dead
 | [],t=> .inr rfl
 |k::ks,t=>by
  simp only[iq,W,look]
  by_cases h:k=t
  ·subst h;simp
  ·have:(k==t)=false:=by simp[h]
   simp only[this,cond_false];exact EH (ks:=ks) t
def InS.keep {ks:List Nat}(h:InS C X lo k s a w E):InS C X lo k ⟨iq s.env ks,s.mem⟩ a w E:={
 sim:=h.sim
 size:=h.size
 defers:=h.defers
 fix:=h.fix
 env:=fun t=>by
  rcases EH (l:=s.env) (ks:=ks) t with b|b
  ·simp only[b];exact h.env t
  ·simp only[b];exact .dead}
def InS.reserve (n:Nat)(h:InS C X lo k s a w E):
  InS C X lo k ⟨s.env,{s.mem with boxes:=s.mem.boxes++av n none}⟩ a w {E with bx:=E.bx++av n 0}/\
  From w s.mem E w {s.mem with boxes:=s.mem.boxes++av n none} {E with bx:=E.bx++av n 0}:=by
 obtain⟨h1,h2⟩:=P9 h.sim n;exact⟨{sim:=h1,size:=h.size,defers:=h.defers,fix:=h.fix,env:=fun t=>(h.env t).from h2},h2⟩
end
inductive Kd where
 |p|rb|rr|rg|a (i:Nat)|wb (i:Nat)|wr|wo|w|x
 deriving DecidableEq
def kd (op:POp)(fl:Nat):Kd:=
 match op with
 | .mov| .pick| .build _ _| .bg| .bin _| .CZ _ _| .Yg _| .un _| .conv _| .mkF _ _| .Qh _ _ _| .WQ| .Qj _ _ _| .ext _| .Gi| .Zg _| .shf _| .qo _| .aj _| .L6 _ _| .tas _ _| .yx _| .GL _ _| .UA _ _ _| .Ns _ _=> .p
 | .load _ _=>if fl=1 then .p else if fl=2 then .rb else if fl=3 then .rr else .rg
 | .Jr _ _=>if fl=1 then .p else if fl=2 then .rb else .rg
 | .fld _=>if fl=1 then .p else if fl=2 then .p else if fl=3 then .rr else .rg
 | .bH _=>if fl=1 then .p else .rr
 | .len=>if fl=1 then .p else .rr
 | .dU _ _ _=>if fl=1 then .p else .x
 | .mkI _=>if fl=1 then .p else .x
 | .Jh _ _ _ _=>if fl=1 then .p else .x
 | .alloc i _=> .a i
 | .box i=> .a i
 | .mkMap i=> .a i
 | .gG _=> .rg
 | .yC _=> .rg
 | .Jg _ _ _=> .rg
 | .store _=>match fl with|3=> .wr|2=> .wo|i+4=> .wb i| _=> .w
 | .app _ _=> .wr
 | .Ya _=> .wr
 | .UD _=> .rr
 | .copy _=> .wr
 | .ng _ _ _=> .wr
 | .UC _=> .rr
 | .QM _=> .wr
 | .kZ _=>if fl=1 then .wr else .x
 | .KX _=> .w
 | _=> .x
def Kd.swap:Kd->Kd->Bool
 | .x,_=>false
 | _, .x=>false
 | .p,_=>true
 | _, .p=>true
 | .rb, .a _=>true
 | .rr, .a _=>true
 | .rg, .a _=>true
 | .a i, .a j=>decide (i≠j)
 | .a i, .wb j=>decide (i≠j)
 | .wb i, .a j=>decide (i≠j)
 | .wb i, .wb j=>decide (i≠j)
 | .a _, .wr=>true
 | .wr, .a _=>true
 | .wb _, .wr=>true
 | .wr, .wb _=>true
 | .rb, .wb _=>true
 | .wb _, .rb=>true
 | .rr, .wb _=>true
 | .wb _, .rr=>true
 | .rb, .wr=>true
 | .wr, .rb=>true
 | .rb, .rb=>true| .rb, .rr=>true| .rb, .rg=>true
 | .rr, .rb=>true| .rr, .rr=>true| .rr, .rg=>true
 | .rg, .rb=>true| .rg, .rr=>true| .rg, .rg=>true
 | .rr, .wo=>true
 | .wo, .rr=>true
 | _,_=>false
def Spec (base:Nat)(k:Kd)(R:Mem->PV->Mem->Prop):Prop:=
 match k with
 | .p=>∃V:PV->Prop,∀M v M',R M v M'↔V v/\M'=M
 | .rb=>∃V:Mem->PV->Prop,(∀M v M',R M v M'↔V M v/\M'=M)/\∀M M' v,(∀b,b<base->M.boxes[b]?=M'.boxes[b]?)->V M v->V M' v
 | .rr=>∃V:Mem->PV->Prop,(∀M v M',R M v M'↔V M v/\M'=M)/\∀M M' v,M.aC=M'.aC->V M v->V M' v
 | .rg=>∃V:Mem->PV->Prop,(∀M v M',R M v M'↔V M v/\M'=M)/\∀M M' v,(∀(b:Nat) (cs:List PV),M.boxes[b]?=some (some cs)->M'.boxes[b]?=some (some cs))->M.aC=M'.aC->V M v->V M' v
 | .a i=>∃(cs:List PV) (h:PV) (c:Prop),∀M v M',R M v M'↔c/\v=h/\M.boxes[base+i]?=some none/\M'={M with boxes:=M.boxes.set (base+i) (some cs)}
 | .wb i=>∃g:List PV->List PV->Prop,∀M v M',R M v M'↔∃cs f,M.boxes[base+i]?=some (some cs)/\base+i∉M.fz/\g cs f/\v= .dead/\M'={M with boxes:=M.boxes.set (base+i) (some f)}
 | .wr=>∃Q:List (Option Arr)->PV->List (Option Arr)->Prop,∀M v M',R M v M'↔∃d,Q M.aC v d/\M'={M with aC:=d}
 | .wo=>∃Q:List (Option (List PV))->List Nat->PV->List (Option (List PV))->Prop,∀M v M',R M v M'↔∃e,Q M.boxes M.fz v e/\M'={M with boxes:=e}
 | .w=>True
 | .x=>False
def Iz (R1 R2:Mem->PV->Mem->Prop):Prop:=∀M d b e c,R1 M d b->R2 b e c->∃a,R2 M e a/\R1 a d c
section
variable {base:Nat}{R1 R2:Mem->PV->Mem->Prop}
def aks {k:Kd}(h1:Spec base .p R1)(_:Spec base k R2):Iz R1 R2:=by
 obtain⟨V,a⟩:=h1;intro M e d f b r1 r2;obtain⟨c,rfl⟩:=(a _ _ _).1 r1;exact⟨b,r2,(a _ _ _).2 ⟨c,rfl⟩⟩
def akt (h2:Spec base .p R2):Iz R1 R2:=by
 obtain⟨V,a⟩:=h2;intro M e c f d r1 r2;obtain⟨b,rfl⟩:=(a _ _ _).1 r2;exact⟨M,(a _ _ _).2 ⟨b,rfl⟩,r1⟩
def JX (R:Mem->PV->Mem->Prop)(Ag:Mem->Mem->Prop):Prop:=∃V:Mem->PV->Prop,(∀M v M',R M v M'↔V M v/\M'=M)/\∀M M' v,Ag M M'->V M v->V M' v
variable{Ag:Mem->Mem->Prop}
def zk {a:Mem->Mem->Prop}(h1:JX R1 Ag)(h2:JX R2 a):Iz R1 R2:=by
 obtain⟨V,c,_⟩:=h1;obtain⟨f,b,_⟩:=h2;intro M i d j e r1 r2;obtain⟨g,rfl⟩:=(c _ _ _).1 r1;obtain⟨h,rfl⟩:=(b _ _ _).1 r2;exact⟨_,r2,r1⟩
def Ep (h1:JX R1 Ag)(h2:∀M v M',R2 M v M'->Ag M M'):Iz R1 R2:=by
 obtain⟨V,a,d⟩:=h1;intro M f e g b r1 r2;obtain⟨c,rfl⟩:=(a _ _ _).1 r1;exact⟨b,r2,(a _ _ _).2 ⟨d _ _ _ (h2 _ _ _ r2) c,rfl⟩⟩
def Qo (h2:JX R2 Ag)(h1:∀M v M',R1 M v M'->Ag M' M):Iz R1 R2:=by
 obtain⟨V,a,c⟩:=h2;intro M f d g e r1 r2;obtain⟨b,rfl⟩:=(a _ _ _).1 r2;exact⟨M,(a _ _ _).2 ⟨c _ _ _ (h1 _ _ _ r1) b,rfl⟩,r1⟩
def uZ (h:Spec base .rb R1):JX R1 fun M M'=>∀b,b<base->M.boxes[b]?=M'.boxes[b]?:=h
def vg (h:Spec base .rr R1):JX R1 fun M M'=>M.aC=M'.aC:=h
def E8 (h:Spec base .rg R1):JX R1 fun M M'=>(∀(b:Nat) (cs:List PV),M.boxes[b]?=some (some cs)->M'.boxes[b]?=some (some cs))/\M.aC=M'.aC:=by
 obtain⟨V,h1,h2⟩:=h;exact⟨V,h1,fun M M' v h=>h2 M M' v h.1 h.2⟩
variable{i:Nat}
def AZ {l:List (Option (List PV))}{j:Nat}{x:Option (List PV)}(h:i≠j):(l.set i x)[j]?=l[j]?:=by rw[List.getElem?_set];simp[h]
def aoQ (h:Spec base (.a i) R1):∀M v M',R1 M v M'->∀b,b<base->M.boxes[b]?=M'.boxes[b]?:=by
 obtain⟨cs,e,c,h⟩:=h;intro M v M' r b d;obtain⟨_,_,_,rfl⟩:=(h _ _ _).1 r;rw[AZ (by omega)]
def agM (h:Spec base (.a i) R1):∀M v M',R1 M v M'->M.aC=M'.aC:=by
 obtain⟨cs,b,c,h⟩:=h;intro M v M' r;obtain⟨_,_,_,rfl⟩:=(h _ _ _).1 r
 rfl
def am0 (h:Spec base (.a i) R1):∀M v M',R1 M v M'->∀(b:Nat) (cs:List PV),M.boxes[b]?=some (some cs)->M'.boxes[b]?=some (some cs):=by
 obtain⟨cs,j,c,h⟩:=h;intro M v M' r b f e;obtain⟨_,_,g,rfl⟩:=(h _ _ _).1 r
 by_cases d:base+i=b
 ·subst d;rw[g]at e;cases e
 ·rw[AZ d];exact e
def ajT (h:Spec base (.wb i) R1):∀M v M',R1 M v M'->∀b,b<base->M.boxes[b]?=M'.boxes[b]?:=by
 obtain⟨g,h⟩:=h;intro M v M' r b c;obtain⟨cs,a,_,_,_,_,rfl⟩:=(h _ _ _).1 r;rw[AZ (by omega)]
def ad1 (h:Spec base (.wb i) R1):∀M v M',R1 M v M'->M.aC=M'.aC:=by
 obtain⟨g,h⟩:=h;intro M v M' r;obtain⟨cs,a,_,_,_,_,rfl⟩:=(h _ _ _).1 r
 rfl
def aaA (h:Spec base .wr R1):∀M v M',R1 M v M'->∀b,b<base->M.boxes[b]?=M'.boxes[b]?:=by
 obtain⟨Q,h⟩:=h;intro M v M' r b _;obtain⟨a,_,rfl⟩:=(h _ _ _).1 r
 rfl
def ad2 (h:Spec base .wo R1):∀M v M',R1 M v M'->M.aC=M'.aC:=by
 obtain⟨Q,h⟩:=h;intro M v M' r;obtain⟨a,_,rfl⟩:=(h _ _ _).1 r
 rfl
def set_comm {l:List (Option (List PV))}{i j:Nat}{x y:Option (List PV)}(h:i≠j):(l.set i x).set j y=(l.set j y).set i x:=List.set_comm _ _ h
def aeT {y z:Kd}(h:y.swap z=true)(h1:Spec base y R1)(h2:Spec base z R2):Iz R1 R2:=by
 unfold Kd.swap at h
 split at h
 ·cases h
 ·cases h
 ·exact aks h1 h2
 ·exact akt h2
 ·exact Ep (uZ h1) (aoQ h2)
 ·exact Ep (vg h1) (agM h2)
 ·exact Ep (E8 h1) fun M v M' r=>⟨am0 h2 M v M' r,agM h2 M v M' r⟩
 ·rename_i i j
  simp only[decide_eq_true_eq]at h;obtain⟨cs,u,c,h1⟩:=h1;obtain⟨ds,B,d,h2⟩:=h2;intro M p m q n r1 r2;obtain⟨a,f,e,rfl⟩:=(h1 _ _ _).1 r1;obtain⟨b1,b2,b3,rfl⟩:=(h2 _ _ _).1 r2;simp only[AZ (show base+i≠base+j by omega)]at b3;refine⟨_,(h2 _ _ _).2 ⟨b1,b2,b3,rfl⟩,(h1 _ _ _).2 ⟨a,f,?_,?_⟩⟩
  ·simp only[AZ (show base+j≠base+i by omega)];exact e
  ·simp only[set_comm (show base+i≠base+j by omega)]
 ·rename_i i j
  simp only[decide_eq_true_eq]at h;obtain⟨cs,u,c,h1⟩:=h1;obtain⟨g,h2⟩:=h2;intro M p m q n r1 r2;obtain⟨a,f,e,rfl⟩:=(h1 _ _ _).1 r1;obtain⟨ds,l,b1,b2,b3,t,rfl⟩:=(h2 _ _ _).1 r2;simp only[AZ (show base+i≠base+j by omega)]at b1;refine⟨_,(h2 _ _ _).2 ⟨ds,l,b1,b2,b3,t,rfl⟩,(h1 _ _ _).2 ⟨a,f,?_,?_⟩⟩
  ·simp only[AZ (show base+j≠base+i by omega)];exact e
  ·simp only[set_comm (show base+i≠base+j by omega)]
 ·rename_i i j
  simp only[decide_eq_true_eq]at h;obtain⟨cs,u,c,h2⟩:=h2;obtain⟨g,h1⟩:=h1;intro M p m q n r1 r2;obtain⟨ds,l,b1,b2,b3,t,rfl⟩:=(h1 _ _ _).1 r1;obtain⟨a,f,e,rfl⟩:=(h2 _ _ _).1 r2;simp only[AZ (show base+i≠base+j by omega)]at e;refine⟨_,(h2 _ _ _).2 ⟨a,f,e,rfl⟩,(h1 _ _ _).2 ⟨ds,l,?_,b2,b3,t,?_⟩⟩
  ·simp only[AZ (show base+j≠base+i by omega)];exact b1
  ·simp only[set_comm (show base+i≠base+j by omega)]
 ·rename_i i j
  simp only[decide_eq_true_eq]at h;obtain⟨A,h2⟩:=h2;obtain⟨g,h1⟩:=h1;intro M p m q n r1 r2;obtain⟨ds,l,b1,b2,b3,t,rfl⟩:=(h1 _ _ _).1 r1;obtain⟨es,w,a,f,e,s,rfl⟩:=(h2 _ _ _).1 r2;simp only[AZ (show base+i≠base+j by omega)]at a;refine⟨_,(h2 _ _ _).2 ⟨es,w,a,f,e,s,rfl⟩,(h1 _ _ _).2 ⟨ds,l,?_,b2,b3,t,?_⟩⟩
  ·simp only[AZ (show base+j≠base+i by omega)];exact b1
  ·simp only[set_comm (show base+i≠base+j by omega)]
 ·obtain⟨cs,u,c,h1⟩:=h1
  obtain⟨Q,h2⟩:=h2;intro M p m q n r1 r2;obtain⟨a,f,e,rfl⟩:=(h1 _ _ _).1 r1;obtain⟨k,b1,rfl⟩:=(h2 _ _ _).1 r2;exact⟨_,(h2 _ _ _).2 ⟨k,b1,rfl⟩,(h1 _ _ _).2 ⟨a,f,e,rfl⟩⟩
 ·obtain⟨cs,u,c,h2⟩:=h2
  obtain⟨Q,h1⟩:=h1;intro M p m q n r1 r2;obtain⟨k,b1,rfl⟩:=(h1 _ _ _).1 r1;obtain⟨a,f,e,rfl⟩:=(h2 _ _ _).1 r2;exact⟨_,(h2 _ _ _).2 ⟨a,f,e,rfl⟩,(h1 _ _ _).2 ⟨k,b1,rfl⟩⟩
 ·obtain⟨g,h1⟩:=h1
  obtain⟨Q,h2⟩:=h2;intro M p m q n r1 r2;obtain⟨cs,o,a,f,e,s,rfl⟩:=(h1 _ _ _).1 r1;obtain⟨k,b1,rfl⟩:=(h2 _ _ _).1 r2;exact⟨_,(h2 _ _ _).2 ⟨k,b1,rfl⟩,(h1 _ _ _).2 ⟨cs,o,a,f,e,s,rfl⟩⟩
 ·obtain⟨g,h2⟩:=h2
  obtain⟨Q,h1⟩:=h1;intro M p m q n r1 r2;obtain⟨k,b1,rfl⟩:=(h1 _ _ _).1 r1;obtain⟨cs,o,a,f,e,s,rfl⟩:=(h2 _ _ _).1 r2;exact⟨_,(h2 _ _ _).2 ⟨cs,o,a,f,e,s,rfl⟩,(h1 _ _ _).2 ⟨k,b1,rfl⟩⟩
 ·exact Ep (uZ h1) (ajT h2)
 ·exact Qo (uZ h2) fun M v M' r b x=>(ajT h1 M v M' r b x).symm
 ·exact Ep (vg h1) (ad1 h2)
 ·exact Qo (vg h2) fun M v M' r=>(ad1 h1 M v M' r).symm
 ·exact Ep (uZ h1) (aaA h2)
 ·exact Qo (uZ h2) fun M v M' r b x=>(aaA h1 M v M' r b x).symm
 ·exact zk (uZ h1) (uZ h2)
 ·exact zk (uZ h1) (vg h2)
 ·exact zk (uZ h1) (E8 h2)
 ·exact zk (vg h1) (uZ h2)
 ·exact zk (vg h1) (vg h2)
 ·exact zk (vg h1) (E8 h2)
 ·exact zk (E8 h1) (uZ h2)
 ·exact zk (E8 h1) (vg h2)
 ·exact zk (E8 h1) (E8 h2)
 ·exact Ep (vg h1) (ad2 h2)
 ·exact Qo (vg h2) fun M v M' r=>(ad2 h1 M v M' r).symm
 ·cases h
end
section
variable {C:Ctx}{base:Nat}
def Gl (C:Ctx)(base:Nat)(op:POp)(args:List PV)(R:Mem->PV->Mem->Prop):Prop:=∀M K KP,au C base op args M K KP↔∃v M',R M v M'/\K v M'
variable{op:POp}{args:List PV}
def alN {V:PV->Prop}(h:∀M K KP,au C base op args M K KP↔∃v,V v/\K v M):∃R,Spec base .p R/\Gl C base op args R:=by
 refine⟨fun M v M'=>V v/\M'=M,⟨V,fun _ _ _=>Y⟩,fun M K KP=>(h M K KP).trans ?_⟩;constructor
 ·rintro⟨v,h1,h2⟩;exact⟨v,M,⟨h1,rfl⟩,h2⟩
 ·rintro⟨v,M',⟨h1,rfl⟩,h2⟩;exact⟨v,h1,h2⟩
def wW {V:Mem->PV->Prop}(h:∀M K KP,au C base op args M K KP↔∃v,V M v/\K v M):Gl C base op args (fun M v M'=>V M v/\M'=M):=by
 intro M K KP;refine(h M K KP).trans ?_;constructor
 ·rintro⟨v,h1,h2⟩;exact⟨v,M,⟨h1,rfl⟩,h2⟩
 ·rintro⟨v,M',⟨h1,rfl⟩,h2⟩;exact⟨v,h1,h2⟩
def aaI {op:BinOp}{k:IntKind}{a b:Int}{K:DV->Prop}:mD op k a b K↔∃d,mD op k a b (fun u=>d=u)/\K d:=by
 cases op<;>simp[mD,and_assoc]
def aaK {op:BinOp}{a b:ByteArray}{K:DV->Prop}:CS op a b K↔∃d,CS op a b (fun u=>d=u)/\K d:=by
 cases op<;>simp[CS,and_assoc]
variable{x:PV}
def NK {op:BinOp}{y:PV}{K:DV->Prop}:OM op x y K↔∃d,OM op x y (fun u=>d=u)/\K d:=by
 unfold OM
 split
 ·rw[aaI]
  constructor
  ·rintro⟨h,d,h1,h2⟩;exact⟨d,⟨h,h1⟩,h2⟩
  ·rintro⟨d,⟨h,h1⟩,h2⟩;exact⟨h,d,h1,h2⟩
 ·exact aaK
 ·simp
def Ud {op:UnOp}{K:DV->Prop}:aat op x K↔∃d,aat op x (fun u=>d=u)/\K d:=by
 unfold aat
 split<;>simp
def lS:∀{args:List PV},args.all PV.isD=true->∃ds:List DV,args=ds.map .d
 | [],_=>⟨[],rfl⟩
 | .d x::l,h=>by
  simp only[bL,H]at h;obtain⟨ds,rfl⟩:=lS h.2;exact⟨x::ds,rfl⟩
 | .ptr _ _::_,h| .jX _ _ _ _::_,h| .tsl _ _ _::_,h| .func _ _ _::_,h| .agg _::_,h| .tup _::_,h| .dead::_,h=>by simp[PV.isD]at h
def Yz {M:Mem}:∀{ds:List DV},bV M (ds.map .d)=some ds
 | []=>rfl
 |d::ds=>by simp only[W,bV,datum,Yz]
variable{M:Mem}
def BG {ds:List DV}:M.frz (ds.map .d)=M:=by
 have h1:∀ds:List DV,(ds.map PV.d).flatMap (kK M)=[]:=by
  intro ds;induction ds with
  |nil=>rfl
  |cons d ds a=>simp[kK]
 have h2:∀ds:List DV,(ds.map PV.d).flatMap (lg M)=[]:=by
  intro ds;induction ds with
  |nil=>rfl
  |cons d ds a=>simp[lg]
 simp only[Mem.frz,h1,h2,Gh,List.foldl_nil,List.nil_append]
variable{M':Mem}
def UH {b:Nat}(h:M.boxes[b]?=M'.boxes[b]?):M.box b=M'.box b:=by simp[Mem.box,h]
def sD (h:M.aC=M'.aC)(k ver:Nat):M.row k ver=M'.row k ver:=by simp[Mem.row,h]
variable{agg:Bool}
def jZ {n:Nat}{K:PV->Prop}:bY agg n x M K↔∃v,bY agg n x M (fun u=>v=u)/\K v:=by
 unfold bY
 repeat' split
 all_goals simp[and_assoc]
def afD {n:Nat}{K:PV->Prop}:oJ agg n x M K↔∃v,oJ agg n x M (fun u=>v=u)/\K v:=by
 unfold oJ
 repeat' split
 all_goals simp[and_assoc]
variable{off:Nat}
def akV {K:PV->Prop}:mM off x M K↔∃v,mM off x M (fun u=>v=u)/\K v:=by
 unfold mM
 repeat' split
 all_goals simp[and_assoc]
def ah7 {sz:Nat}{i:PV}{K:PV->Prop}:uT sz x i M K↔∃v,uT sz x i M (fun u=>v=u)/\K v:=by
 unfold uT
 repeat' split
 all_goals simp[and_assoc]
def W9 {K:Int->Prop}:qx x M K↔∃v,qx x M (fun u=>v=u)/\K v:=by
 unfold qx
 repeat' split
 all_goals simp
def Vd {n:Nat}{k ver i:Nat}(h:M.aC=M'.aC){K:PV->Prop}(hh:bY agg n (.jX k ver i off) M K):bY agg n (.jX k ver i off) M' K:=by
 simp only[bY,sD h]at hh⊢;exact hh
def afF {n:Nat}(hb:∀(b:Nat) (cs:List PV),M.boxes[b]?=some (some cs)->M'.boxes[b]?=some (some cs))(h:M.aC=M'.aC){K:PV->Prop}(hh:bY agg n x M K):bY agg n x M' K:=by
 cases x with
 |ptr b off=>
  simp only[bY]at hh⊢
  split at hh
  ·rename_i cs a
   have:M'.box b=some cs:=by simp[Mem.box,hb _ _ (nC a)]
   rw[this];exact hh
  ·exact hh.elim
 |jX k ver i off=>exact Vd h hh
 |d y=>cases y<;>exact hh
 | _=>exact hh
def ab7 {n:Nat}(hb:∀(b:Nat) (cs:List PV),M.boxes[b]?=some (some cs)->M'.boxes[b]?=some (some cs)){K:PV->Prop}(hh:oJ agg n x M K):oJ agg n x M' K:=by
 cases x with
 |ptr b off=>
  simp only[oJ]at hh⊢
  split at hh
  ·rename_i cs a
   have:M'.box b=some cs:=by simp[Mem.box,hb _ _ (nC a)]
   rw[this];exact hh
  ·exact hh.elim
 |d y=>cases y<;>exact hh
 | _=>exact hh
variable{f:Bool}{l:List PV}{K:Option Int->List PV->Prop}
def oP {b:Option Int->List PV->Prop}(hk:∀a l,K a l->b a l)(h:dY f l K):dY f l b:=by
 unfold dY at h⊢
 split at h
 ·exact hk _ _ h
 ·exact hk _ _ h
 ·exact h.elim
def Oj (h:dY f l K):∃a c,dY f l (fun d b=>d=a/\b=c)/\K a c:=by
 unfold dY at h⊢
 split at h
 ·exact⟨_,_,⟨rfl,rfl⟩,h⟩
 ·exact⟨_,_,⟨rfl,rfl⟩,h⟩
 ·exact h.elim
variable{Q:Option Int->Option Int->Option Int->Prop}
def IE {lo hi mx:Bool}(h:dY lo l fun a l=>dY hi l fun b l=>dY mx l fun m l=>l=[]/\Q a b m):
  ∃a b m,(dY lo l fun c l=>dY hi l fun b' l=>dY mx l fun j l=>l=[]/\c=a/\b'=b/\j=m)/\Q a b m:=by
 obtain⟨a,l1,h1,h2⟩:=Oj h;obtain⟨b,l2,d,e⟩:=Oj h2;obtain⟨m,k,f,g,i⟩:=Oj e;refine⟨a,b,m,oP ?_ h1,i⟩;rintro _ _ ⟨rfl,rfl⟩;refine oP ?_ d;rintro _ _ ⟨rfl,rfl⟩;refine oP ?_ f;rintro _ _ ⟨rfl,rfl⟩;exact⟨g,rfl,rfl,rfl⟩
def IG {lo hi mx:Bool}{a b m:Option Int}(h:dY lo l fun c l=>dY hi l fun b' l=>dY mx l fun e l=>l=[]/\c=a/\b'=b/\e=m)(d:Q a b m):
  dY lo l fun a l=>dY hi l fun b l=>dY mx l fun m l=>l=[]/\Q a b m:=
 oP (fun _ _=>oP fun _ _=>oP fun _ _ hh=>⟨hh.1,by rw[hh.2.1,hh.2.2.1,hh.2.2.2];exact d⟩) h
def OY (hb:∀(b:Nat) (cs:List PV),M.boxes[b]?=some (some cs)->M'.boxes[b]?=some (some cs))(a:M.aC=M'.aC){p:PV}{d:DV}(h:dR M p=some d):dR M' p=some d:=by
 cases p with
 |tsl k ver skip=>simp only[dR]at h⊢;rw[<-sD a];exact h
 |mref b=>
  simp only[dR]at h⊢
  split at h
  ·rename_i l c
   have:M'.box b=some [.iO l]:=by simp[Mem.box,hb _ _ (nC c)]
   rw[this];exact h
  ·cases h
 | _=>exact h
def Ll {M M':Mem}(hb:∀(b:Nat) (cs:List PV),M.boxes[b]?=some (some cs)->M'.boxes[b]?=some (some cs))(a:M.aC=M'.aC):∀{ps:List PV} {ds:List DV},bT M ps=some ds->bT M' ps=some ds
 | [],_,h=>h
 |p::ps,ds,h=>by
  simp only[bT]at h⊢
  split at h
  ·rename_i x xs h1 h2;rw[OY hb a h1,Ll hb a h2];exact h
  ·cases h
def abb (hb:∀(b:Nat) (cs:List PV),M.boxes[b]?=some (some cs)->M'.boxes[b]?=some (some cs))(e:M.aC=M'.aC){p:PV}{d:DV}(h:datum M p=some d):datum M' p=some d:=by
 have a:=fun{i ds}=>Ll (ps:=i) (ds:=ds) hb e
 cases p with
 |tsl k ver skip=>simp only[datum]at h⊢;rw[<-sD e];exact h
 |mref b=>exact OY (p:= .mref b) hb e h
 |ptr b off=>
  simp only[datum]at h⊢
  split at h
  ·rename_i cs g
   have:M'.box b=some cs:=by simp[Mem.box,hb _ _ (nC g)]
   rw[this];simp only[ae]at h⊢;obtain⟨x,h1,h2⟩:=h;exact⟨x,a h1,h2⟩
  ·cases h
 |func fn f c=>
  simp only[datum]at h⊢
  split at h
  ·rename_i x y h1 h2;rw[a h1,a h2];exact h
  ·cases h
 |agg cs=>simp only[datum,ae]at h⊢;obtain⟨x,h1,h2⟩:=h;exact⟨x,a h1,h2⟩
 |tup cs=>simp only[datum,ae]at h⊢;obtain⟨x,h1,h2⟩:=h;exact⟨x,a h1,h2⟩
 | _=>exact h
def Gt {M M':Mem}(hb:∀(b:Nat) (cs:List PV),M.boxes[b]?=some (some cs)->M'.boxes[b]?=some (some cs))(a:M.aC=M'.aC):∀{ps:List PV} {ds:List DV},bV M ps=some ds->bV M' ps=some ds
 | [],_,h=>h
 |p::ps,ds,h=>by
  simp only[bV]at h⊢
  split at h
  ·rename_i x xs h1 h2;rw[abb hb a h1,Gt hb a h2];exact h
  ·cases h
variable{fl:Nat}
def aoC (h:kd op fl= .p)(hf:yu base fl args):∃V:PV->Prop,∀M K KP,au C base op args M K KP↔∃v,V v/\K v M:=by
 have one:∀{p:Prop} [Decidable p] {x y z:Kd},(if p then x else y)=z->y≠z->p:=by
  intro p _ x y z h O;by_cases G:p
  ·exact G
  ·rw[if_neg G]at h;exact absurd h O
 cases op with
 |mov=>refine⟨fun v=>au C base .mov args bG (fun u _=>v=u) (fun _ _=>False),fun M K KP=> ?_⟩;simp only[au];split<;>simp
 |pick=>refine⟨fun v=>au C base .pick args bG (fun u _=>v=u) (fun _ _=>False),fun M K KP=> ?_⟩;simp only[au];split<;>simp
 |build zs J=>refine⟨fun v=>au C base (.build zs J) args bG (fun u _=>v=u) (fun _ _=>False),fun M K KP=> ?_⟩;simp only[au];cases jY (zs.map .d) J args<;>simp
 |bg=>refine⟨fun v=>au C base .bg args bG (fun u _=>v=u) (fun _ _=>False),fun M K KP=> ?_⟩;simp only[au];split<;>simp
 |bin op=>
  refine⟨fun v=>au C base (.bin op) args bG (fun u _=>v=u) (fun _ _=>False),fun M K KP=> ?_⟩;simp only[au]
  split
  ·rw[NK]
   constructor
   ·rintro⟨d,h1,h2⟩;exact⟨.d d,NK.2 ⟨d,h1,rfl⟩,h2⟩
   ·rintro⟨v,h1,h2⟩
    obtain⟨d,e,rfl⟩:=NK.1 h1;exact⟨d,e,h2⟩
  ·simp
 |CZ neq A=>
  refine⟨fun v=>au C base (.CZ neq A) args bG (fun u _=>v=u) (fun _ _=>False),fun M K KP=> ?_⟩;simp only[au]
  split
  ·rename_i a b;cases bW A a b<;>simp
  ·simp
 |shf op=>refine⟨fun v=>au C base (.shf op) args bG (fun u _=>v=u) (fun _ _=>False),fun M K KP=> ?_⟩;simp only[au];split<;>(try simp);cases op<;>simp[and_assoc]
 |Yg neq=>refine⟨fun v=>au C base (.Yg neq) args bG (fun u _=>v=u) (fun _ _=>False),fun M K KP=> ?_⟩;simp only[au];split<;>simp
 |un op=>
  refine⟨fun v=>au C base (.un op) args bG (fun u _=>v=u) (fun _ _=>False),fun M K KP=> ?_⟩;simp only[au]
  split
  ·rw[Ud]
   constructor
   ·rintro⟨d,h1,h2⟩;exact⟨.d d,Ud.2 ⟨d,h1,rfl⟩,h2⟩
   ·rintro⟨v,h1,h2⟩
    obtain⟨d,e,rfl⟩:=Ud.1 h1;exact⟨d,e,h2⟩
  ·simp
 |conv k=>refine⟨fun v=>au C base (.conv k) args bG (fun u _=>v=u) (fun _ _=>False),fun M K KP=> ?_⟩;simp only[au];split<;>simp
 |mkF fn P=>refine⟨fun v=>au C base (.mkF fn P) args bG (fun u _=>v=u) (fun _ _=>False),fun M K KP=> ?_⟩;simp only[au];cases gV args<;>simp
 |Qh agg off n=>refine⟨fun v=>au C base (.Qh agg off n) args bG (fun u _=>v=u) (fun _ _=>False),fun M K KP=> ?_⟩;simp only[au];split<;>simp[and_assoc]
 |WQ=>refine⟨fun v=>au C base .WQ args bG (fun u _=>v=u) (fun _ _=>False),fun M K KP=> ?_⟩;simp only[au];split<;>simp[and_assoc]
 |Qj agg sz len=>refine⟨fun v=>au C base (.Qj agg sz len) args bG (fun u _=>v=u) (fun _ _=>False),fun M K KP=> ?_⟩;simp only[au];split<;>simp[and_assoc]
 |ext i=>
  refine⟨fun v=>au C base (.ext i) args bG (fun u _=>v=u) (fun _ _=>False),fun M K KP=> ?_⟩;simp only[au]
  split
  ·rename_i F;cases F[i]?<;>simp
  ·rename_i F;cases F[i]?<;>simp
  ·simp
 |Gi=>refine⟨fun v=>au C base .Gi args bG (fun u _=>v=u) (fun _ _=>False),fun M K KP=> ?_⟩;simp only[au];split<;>simp
 |Zg n=>refine⟨fun v=>au C base (.Zg n) args bG (fun u _=>v=u) (fun _ _=>False),fun M K KP=> ?_⟩;simp only[au];simp
 |qo E=>refine⟨fun v=>au C base (.qo E) args bG (fun u _=>v=u) (fun _ _=>False),fun M K KP=> ?_⟩;simp only[au];split<;>simp
 |L6 A z=>
  refine⟨fun v=>au C base (.L6 A z) args bG (fun u _=>v=u) (fun _ _=>False),fun M K KP=> ?_⟩;simp only[au]
  split
  ·rename_i l k
   cases bW A k k with
   |none=>simp
   |some b=>cases b<;>cases zY A l k<;>simp
  ·simp
 |Ns lo hi=>
  refine⟨fun v=>au C base (.Ns lo hi) args bG (fun u _=>v=u) (fun _ _=>False),fun M K KP=> ?_⟩;simp only[au]
  rcases args with _|⟨x,l⟩
  ·simp[zx]
  ·by_cases H:∃s,x= .d (.str s)
   ·obtain⟨s,rfl⟩:=H
    simp only[zx];constructor
    ·intro hh
     obtain⟨a,b,m,e,g,j,q,r,B⟩:=IE hh;exact⟨_,IG e ⟨g,j,q,r,rfl⟩,B⟩
    ·rintro⟨v,h1,h2⟩
     obtain⟨a,b,m,e,g,j,q,r,rfl⟩:=IE h1;exact IG e ⟨g,j,q,r,h2⟩
   ·have:∀Q:DV->Prop,¬zx lo hi (x::l) Q:=by
     intro Q hh;unfold zx at hh
     split at hh
     ·rename_i s R N;cases N;exact H ⟨s,rfl⟩
     ·exact hh
    constructor
    ·intro hh;exact(this _ hh).elim
    ·rintro⟨v,hh,_⟩;exact(this _ hh).elim
 |yx neq=>refine⟨fun v=>au C base (.yx neq) args bG (fun u _=>v=u) (fun _ _=>False),fun M K KP=> ?_⟩;simp only[au];split<;>simp
 |GL sz len=>refine⟨fun v=>au C base (.GL sz len) args bG (fun u _=>v=u) (fun _ _=>False),fun M K KP=> ?_⟩;simp only[au];split<;>simp[and_assoc]
 |UA agg sz len=>refine⟨fun v=>au C base (.UA agg sz len) args bG (fun u _=>v=u) (fun _ _=>False),fun M K KP=> ?_⟩;simp only[au];split<;>simp[and_assoc]
 |tas t z=>refine⟨fun v=>au C base (.tas t z) args bG (fun u _=>v=u) (fun _ _=>False),fun M K KP=> ?_⟩;simp only[au];split<;>simp
 |load agg n=>
  simp only[kd]at h;have c:fl=1:=by
   refine one h ?_;split
   ·decide
   ·split<;>decide
  subst c;obtain⟨ds,rfl⟩:=lS (args:=args) hf;refine⟨fun v=>au C base (.load agg n) (ds.map .d) bG (fun u _=>v=u) (fun _ _=>False),fun M K KP=> ?_⟩;simp only[au]
  rcases ds with _|⟨x,_|⟨y,l⟩⟩
  ·simp
  ·simp only[W,ab];cases x<;>simp[bY,and_assoc]
  ·simp
 |Jr agg n=>
  simp only[kd]at h;have c:fl=1:=by
   refine one h ?_;split<;>decide
  subst c;obtain⟨ds,rfl⟩:=lS (args:=args) hf;refine⟨fun v=>au C base (.Jr agg n) (ds.map .d) bG (fun u _=>v=u) (fun _ _=>False),fun M K KP=> ?_⟩;simp only[au]
  rcases ds with _|⟨x,_|⟨y,l⟩⟩
  ·simp
  ·simp only[W,ab];cases x<;>simp[oJ,and_assoc]
  ·simp
 |fld off=>
  have c:fl=1\/fl=2:=by
   simp only[kd]at h
   by_cases h1:fl=1
   ·exact .inl h1
   ·by_cases h2:fl=2
    ·exact .inr h2
    ·rw[if_neg h1,if_neg h2]at h
     split at h<;>cases h
  have w:(∃ds:List DV,args=ds.map .d)\/(∃b o t,args= .ptr b o::t)\/(∃x t,args= .d x::t):=by
   rcases c with rfl|rfl
   ·exact .inl (lS hf)
   ·simp only[yu]at hf
    split at hf
    ·exact .inr (.inl ⟨_,_,_,rfl⟩)
    ·exact .inr (.inr ⟨_,_,rfl⟩)
    ·exact hf.elim
  refine⟨fun v=>au C base (.fld off) args bG (fun u _=>v=u) (fun _ _=>False),fun M K KP=> ?_⟩
  rcases w with⟨ds,rfl⟩|⟨b,o,t,rfl⟩|⟨x,t,rfl⟩
  ·simp only[au]
   rcases ds with _|⟨x,_|⟨y,l⟩⟩
   ·simp
   ·simp only[W,ab];cases x<;>simp[mM,and_assoc]
   ·simp
  ·simp only[au]
   cases t<;>simp[mM]
  ·simp only[au]
   cases t<;>cases x<;>simp[mM,and_assoc]
 |bH sz=>
  simp only[kd]at h;have c:fl=1:=one h (by decide);subst c;obtain⟨ds,rfl⟩:=lS (args:=args) hf;refine⟨fun v=>au C base (.bH sz) (ds.map .d) bG (fun u _=>v=u) (fun _ _=>False),fun M K KP=> ?_⟩;simp only[au]
  rcases ds with _|⟨x,_|⟨y,_|⟨z,l⟩⟩⟩
  ·simp
  ·simp
  ·simp only[W,ab];cases x<;>cases y<;>simp[uT,and_assoc]
  ·simp
 |len=>
  simp only[kd]at h;have c:fl=1:=one h (by decide);subst c;obtain⟨ds,rfl⟩:=lS (args:=args) hf;refine⟨fun v=>au C base .len (ds.map .d) bG (fun u _=>v=u) (fun _ _=>False),fun M K KP=> ?_⟩;simp only[au]
  rcases ds with _|⟨x,_|⟨y,l⟩⟩
  ·simp
  ·simp only[W,ab];cases x<;>simp[qx]
  ·simp
 |dU sz zs I=>
  simp only[kd]at h;have c:fl=1:=one h (by decide);subst c;obtain⟨ds,rfl⟩:=lS (args:=args) hf;refine⟨fun v=>au C base (.dU sz zs I) (ds.map .d) bG (fun u _=>v=u) (fun _ _=>False),fun M K KP=> ?_⟩;simp only[au,Yz,BG];cases qJ sz zs I (ds.map DV.strip)<;>simp
 |mkI t=>
  simp only[kd]at h;have c:fl=1:=one h (by decide);subst c;obtain⟨ds,rfl⟩:=lS (args:=args) hf;refine⟨fun v=>au C base (.mkI t) (ds.map .d) bG (fun u _=>v=u) (fun _ _=>False),fun M K KP=> ?_⟩;simp only[au]
  rcases ds with _|⟨x,_|⟨y,l⟩⟩
  ·simp
  ·have:=fun M:Mem=>BG (M:=M) (ds:=[x])
   simp only[W,ab]at this;simp only[W,ab,datum,this];simp
  ·simp
 |Jh sz lo hi E=>
  simp only[kd]at h;have c:fl=1:=one h (by decide);subst c;obtain⟨ds,rfl⟩:=lS (args:=args) hf;refine⟨fun v=>au C base (.Jh sz lo hi E) (ds.map .d) bG (fun u _=>v=u) (fun _ _=>False),fun M K KP=> ?_⟩;simp only[au]
  rcases ds with _|⟨x,l⟩
  ·simp[zu]
  ·simp only[W]
   cases x with
   |slice ex xs=>
    simp only[zu];constructor
    ·intro hh
     obtain⟨a,b,m,e,g,j,q,r,B,L⟩:=IE hh;exact⟨_,IG e ⟨g,j,q,r,B,rfl⟩,L⟩
    ·rintro⟨v,h1,h2⟩
     obtain⟨a,b,m,e,g,j,q,r,B,rfl⟩:=IE h1;exact IG e ⟨g,j,q,r,B,h2⟩
   | _=>simp[zu]
 |aj f=>
  refine⟨fun v=>au C base (.aj f) args bG (fun u _=>v=u) (fun _ _=>False),fun M K KP=> ?_⟩;simp only[au,TI];constructor
  ·rintro⟨ds,D,x,h1,h2⟩;exact⟨.d x,⟨ds,D,x,h1,rfl⟩,h2⟩
  ·rintro⟨v,⟨ds,D,x,h1,rfl⟩,h2⟩;exact⟨ds,D,x,h1,h2⟩
 |store n=>
  simp only[kd]at h
  split at h<;>cases h
 |kZ f=>
  simp only[kd]at h
  split at h<;>cases h
 | _=>simp[kd]at h
def QC (h:kd op fl≠ .x)(hf:yu base fl args):∃R,Spec base (kd op fl) R/\Gl C base op args R:=by
 by_cases O:kd op fl= .p
 ·rw[O]
  obtain⟨V,hV⟩:=aoC (C:=C) O hf;exact alN hV
 ·cases op with
  |load agg n=>
   have S:Gl C base (.load agg n) args (fun M v M'=>(au C base (.load agg n) args M (fun u _=>v=u) (fun _ _=>False))/\M'=M):=wW fun M K KP=>by
    simp only[au]
    split
    ·exact jZ
    ·simp
   refine⟨_,?_,S⟩;simp only[kd]at O⊢;have h1:fl≠1:=fun e=>O (by simp[e])
   rw[if_neg h1]
   by_cases h2:fl=2
   ·rw[if_pos h2]
    subst h2;refine⟨_,fun _ _ _=>Y,fun M M' v F c=> ?_⟩;simp only[au]at c⊢;simp only[yu]at hf
    split at hf
    ·rename_i b o t
     cases t with
     |nil=>simp only[bY]at c⊢;rw[<-UH (F b hf)];exact c
     |cons=>exact c
    ·rename_i x t
     cases t with
     |nil=>cases x<;>exact c
     |cons=>exact c
    ·exact hf.elim
   ·rw[if_neg h2]
    by_cases g:fl=3
    ·rw[if_pos g]
     subst g;refine⟨_,fun _ _ _=>Y,fun M M' v F c=> ?_⟩;simp only[au]at c⊢;simp only[yu]at hf
     split at hf
     ·rename_i t
      cases t with
      |nil=>exact Vd F c
      |cons=>exact c
     ·exact hf.elim
    ·rw[if_neg g]
     refine⟨_,fun _ _ _=>Y,fun M M' v X U c=> ?_⟩;simp only[au]at c⊢
     split at c
     ·exact afF X U c
     ·exact c.elim
  |Jr agg n=>
   have S:Gl C base (.Jr agg n) args (fun M v M'=>(au C base (.Jr agg n) args M (fun u _=>v=u) (fun _ _=>False))/\M'=M):=wW fun M K KP=>by
    simp only[au]
    split
    ·exact afD
    ·simp
   refine⟨_,?_,S⟩;simp only[kd]at O⊢;have h1:fl≠1:=fun e=>O (by simp[e])
   rw[if_neg h1]
   by_cases h2:fl=2
   ·rw[if_pos h2]
    subst h2;refine⟨_,fun _ _ _=>Y,fun M M' v F c=> ?_⟩;simp only[au]at c⊢;simp only[yu]at hf
    split at hf
    ·rename_i b o t
     cases t with
     |nil=>simp only[oJ]at c⊢;rw[<-UH (F b hf)];exact c
     |cons=>exact c
    ·rename_i x t
     cases t with
     |nil=>cases x<;>exact c
     |cons=>exact c
    ·exact hf.elim
   ·rw[if_neg h2]
    refine⟨_,fun _ _ _=>Y,fun M M' v X U c=> ?_⟩;simp only[au]at c⊢
    split at c
    ·exact ab7 X c
    ·exact c.elim
  |fld off=>
   have S:Gl C base (.fld off) args (fun M v M'=>(au C base (.fld off) args M (fun u _=>v=u) (fun _ _=>False))/\M'=M):=wW fun M K KP=>by
    simp only[au]
    split
    ·exact akV
    ·simp
   have D:∀{M M':Mem},M.aC=M'.aC->∀{x:PV} {K:PV->Prop},mM off x M K->mM off x M' K:=by
    intro M M' U x K hh;cases x with
    |jX k ver i o=>simp only[mM,sD U]at hh⊢;exact hh
    |d x=>cases x<;>exact hh
    | _=>exact hh
   refine⟨_,?_,S⟩;simp only[kd]at O⊢;have h1:fl≠1:=fun e=>O (by simp[e])
   have h2:fl≠2:=fun e=>O (by simp[e])
   rw[if_neg h1,if_neg h2]
   by_cases g:fl=3
   ·rw[if_pos g]
    refine⟨_,fun _ _ _=>Y,fun M M' v F c=> ?_⟩;simp only[au]at c⊢
    split at c
    ·exact D F c
    ·exact c.elim
   ·rw[if_neg g]
    refine⟨_,fun _ _ _=>Y,fun M M' v X U c=> ?_⟩;simp only[au]at c⊢
    split at c
    ·exact D U c
    ·exact c.elim
  |bH sz=>
   have S:Gl C base (.bH sz) args (fun M v M'=>(au C base (.bH sz) args M (fun u _=>v=u) (fun _ _=>False))/\M'=M):=wW fun M K KP=>by
    simp only[au]
    split
    ·exact ah7
    ·simp
   refine⟨_,?_,S⟩;simp only[kd]at O⊢;have h1:fl≠1:=fun e=>O (by simp[e])
   rw[if_neg h1];refine⟨_,fun _ _ _=>Y,fun M M' v F c=> ?_⟩;simp only[au]at c⊢
   split at c
   ·simp only[uT,sD F]at c⊢;exact c
   ·exact c.elim
  |len=>
   have S:Gl C base .len args (fun M v M'=>(au C base .len args M (fun u _=>v=u) (fun _ _=>False))/\M'=M):=wW fun M K KP=>by
    simp only[au]
    split
    ·rw[W9]
     constructor
     ·rintro⟨n,h1,h2⟩;exact⟨_,W9.2 ⟨n,h1,rfl⟩,h2⟩
     ·rintro⟨v,h1,h2⟩
      obtain⟨n,g1,rfl⟩:=W9.1 h1;exact⟨n,g1,h2⟩
    ·simp
   refine⟨_,?_,S⟩;simp only[kd]at O⊢;have h1:fl≠1:=fun e=>O (by simp[e])
   rw[if_neg h1];refine⟨_,fun _ _ _=>Y,fun M M' v F c=> ?_⟩;simp only[au]at c⊢
   split at c
   ·simp only[qx,sD F]at c⊢;exact c
   ·exact c.elim
  |UD sz=>
   have S:Gl C base (.UD sz) args (fun M v M'=>(au C base (.UD sz) args M (fun u _=>v=u) (fun _ _=>False))/\M'=M):=wW fun M K KP=>by
    simp only[au]
    split
    ·rename_i k ver skip kk n
     cases M.row k ver with
     |none=>simp
     |some A=>simp[and_assoc]
    ·simp
   refine⟨_,?_,S⟩;simp only[kd];refine⟨_,fun _ _ _=>Y,fun M M' v F c=> ?_⟩;simp only[au]at c⊢
   split at c
   ·simp only[sD F]at c⊢;exact c
   ·exact c.elim
  |UC sz=>
   have S:Gl C base (.UC sz) args (fun M v M'=>(au C base (.UC sz) args M (fun u _=>v=u) (fun _ _=>False))/\M'=M):=wW fun M K KP=>by
    simp only[au]
    split
    ·rename_i k ver skip kk n
     cases M.row k ver with
     |none=>simp
     |some A=>simp[and_assoc]
    ·simp
   refine⟨_,?_,S⟩;simp only[kd];refine⟨_,fun _ _ _=>Y,fun M M' v F c=> ?_⟩;simp only[au]at c⊢
   split at c
   ·simp only[sD F]at c⊢;exact c
   ·exact c.elim
  |KX f=>
   exact⟨fun M p M'=>SC C f args M (fun q N=>q=p/\N=M') (fun _ _=>False),trivial,fun M K KP=>Y⟩
  |gG f=>
   refine⟨_,⟨fun M v=>au C base (.gG f) args M (fun u _=>v=u) (fun _ _=>False),fun _ _ _=>Y,fun M M' v X U c=> ?_⟩,wW fun M K KP=> ?_⟩
   ·obtain⟨ds,Q,h1⟩:=c
    exact⟨ds,Gt X U Q,h1⟩
   ·simp only[au,Nj]
    constructor
    ·rintro⟨ds,Q,x,h1,h2,g⟩;exact⟨.d x,⟨ds,Q,x,h1,h2,rfl⟩,g⟩
    ·rintro⟨v,⟨ds,Q,x,h1,h2,rfl⟩,g⟩;exact⟨ds,Q,x,h1,h2,g⟩
  |yC f=>
   refine⟨_,⟨fun M v=>au C base (.yC f) args M (fun u _=>v=u) (fun _ _=>False),fun _ _ _=>Y,fun M M' v X U c=> ?_⟩,wW fun M K KP=> ?_⟩
   ·obtain⟨ds,Q,h1⟩:=c
    exact⟨ds,Gt X U Q,h1⟩
   ·simp only[au,TJ]
    constructor
    ·rintro⟨ds,Q,r,E,x,h1,h2,g⟩;exact⟨.d x,⟨ds,Q,r,E,x,h1,h2,rfl⟩,g⟩
    ·rintro⟨v,⟨ds,Q,r,E,x,h1,h2,rfl⟩,g⟩;exact⟨ds,Q,r,E,x,h1,h2,g⟩
  |Jg ok ks z=>
   refine⟨_,⟨fun M v=>au C base (.Jg ok ks z) args M (fun u _=>v=u) (fun _ _=>False),fun _ _ _=>Y,fun M M' v X U c=> ?_⟩,wW fun M K KP=> ?_⟩
   ·simp only[au]at c⊢
    split at c
    ·exact c
    ·rename_i b k
     cases ac:M.box b with
     |none=>simp only[ac]at c
     |some cs=>
      have:M'.box b=some cs:=by simp[Mem.box,X _ _ (nC ac)]
      simp only[ac]at c;simp only[this];exact c
    ·exact c
   ·simp only[au]
    split
    ·split<;>simp
    ·split
     ·split<;>simp
     ·simp
    ·simp
  |mkMap i=>
   cases args with
   |nil=>
    refine⟨_,⟨[.iO []], .mref (base+i),True,fun _ _ _=>Y⟩,fun M K KP=> ?_⟩;simp only[au];constructor
    ·rintro⟨h1,h2⟩;exact⟨_,_,⟨trivial,rfl,h1,rfl⟩,h2⟩
    ·rintro⟨v,M',⟨_,rfl,h1,rfl⟩,h2⟩;exact⟨h1,h2⟩
   |cons x l=>
    refine⟨_,⟨[], .dead,False,fun _ _ _=>Y⟩,fun M K KP=> ?_⟩;simp[au]
  |alloc i zs=>
   cases args with
   |nil=>
    refine⟨_,⟨zs.map .d, .ptr (base+i) 0,True,fun _ _ _=>Y⟩,fun M K KP=> ?_⟩;simp only[au];constructor
    ·rintro⟨h1,h2⟩;exact⟨_,_,⟨trivial,rfl,h1,rfl⟩,h2⟩
    ·rintro⟨v,M',⟨_,rfl,h1,rfl⟩,h2⟩;exact⟨h1,h2⟩
   |cons x l=>
    refine⟨_,⟨[], .dead,False,fun _ _ _=>Y⟩,fun M K KP=> ?_⟩;simp[au]
  |box i=>
   have ab:(∀M K KP,¬au C base (.box i) args M K KP)->∃R,Spec base (kd (.box i) fl) R/\Gl C base (.box i) args R:=fun hn=>
    ⟨_,⟨[], .dead,False,fun _ _ _=>Y⟩,fun M K KP=>⟨fun hh=>(hn _ _ _ hh).elim,by rintro⟨_,_,⟨hh,_⟩,_⟩;exact hh.elim⟩⟩
   rcases args with _|⟨x,_|⟨y,l⟩⟩
   ·exact ab fun M K KP hh=>by simp[au]at hh
   ·refine⟨_,⟨x.cells, .ptr (base+i) 0,x.oh=false,fun _ _ _=>Y⟩,fun M K KP=> ?_⟩
    simp only[au];constructor
    ·rintro⟨Q,h1,h2⟩;exact⟨_,_,⟨Q,rfl,h1,rfl⟩,h2⟩
    ·rintro⟨v,M',⟨Q,rfl,h1,rfl⟩,h2⟩;exact⟨Q,h1,h2⟩
   ·exact ab fun M K KP hh=>by simp[au]at hh
  |store n=>
   have hx:fl=3\/fl=2\/(∃i,fl=i+4)\/kd (.store n) fl= .w:=by
    simp only[kd]
    split
    ·exact .inl rfl
    ·exact .inr (.inl rfl)
    ·exact .inr (.inr (.inl ⟨_,rfl⟩))
    ·exact .inr (.inr (.inr rfl))
   rcases hx with rfl|rfl|⟨i,rfl⟩|hw
   ·simp only[yu]at hf
    split at hf
    ·rename_i k ver j off t
     refine⟨fun M v M'=>∃a,au C base (.store n) (.jX k ver j off::t) ⟨[],[],M.aC⟩ (fun u m=>v=u/\a=m.aC) (fun _ _=>False)/\M'={M with aC:=a},
      ⟨fun aC v a=>au C base (.store n) (.jX k ver j off::t) ⟨[],[],aC⟩ (fun u m=>v=u/\a=m.aC) (fun _ _=>False),fun _ _ _=>Y⟩,fun M K KP=> ?_⟩
     rcases t with _|⟨y,_|⟨z,l⟩⟩
     ·simp[au]
     ·have D:(⟨[],[],M.aC⟩:Mem).row k ver=M.row k ver:=rfl
      simp only[au,jM,D];cases hr:M.row k ver with
      |none=>simp
      |some A=>
       cases hd:gV y.cells with
       |none=>simp
       |some ds=>
        simp only;constructor
        ·rintro⟨h1,h2,g,B,G,I⟩;exact⟨_,_,⟨_,⟨h1,h2,g,B,G,rfl,rfl⟩,rfl⟩,I⟩
        ·rintro⟨v,M',⟨a,⟨h1,h2,g,B,G,rfl,rfl⟩,rfl⟩,I⟩
         exact⟨h1,h2,g,B,G,I⟩
     ·simp[au]
    ·exact hf.elim
   ·simp only[yu]at hf
    split at hf
    ·rename_i b off t
     refine⟨fun M v M'=>∃T,au C base (.store n) (.ptr b off::t) ⟨M.boxes,M.fz,[]⟩ (fun u m=>v=u/\T=m.boxes) (fun _ _=>False)/\M'={M with boxes:=T},
      ⟨fun bs fz v T=>au C base (.store n) (.ptr b off::t) ⟨bs,fz,[]⟩ (fun u m=>v=u/\T=m.boxes) (fun _ _=>False),fun _ _ _=>Y⟩,fun M K KP=> ?_⟩
     rcases t with _|⟨y,_|⟨z,l⟩⟩
     ·simp[au]
     ·have ai:(⟨M.boxes,M.fz,[]⟩:Mem).box b=M.box b:=rfl
      simp only[au,jM,ai];cases X:M.box b with
      |none=>simp
      |some cs=>
       simp only;constructor
       ·rintro⟨h1,h2,g,B,G⟩;exact⟨_,_,⟨_,⟨h1,h2,g,B,rfl,rfl⟩,rfl⟩,G⟩
       ·rintro⟨v,M',⟨T,⟨h1,h2,g,B,rfl,rfl⟩,rfl⟩,G⟩
        exact⟨h1,h2,g,B,G⟩
     ·simp[au]
    ·rename_i x t
     refine⟨fun M v M'=>False/\M'=M/\v=v,⟨fun _ _ _ _=>False,fun _ _ _=>⟨fun hh=>hh.1.elim,fun⟨_,hh,_⟩=>hh.elim⟩⟩,fun M K KP=> ?_⟩
     rcases t with _|⟨y,_|⟨z,l⟩⟩<;>simp[au,jM]
    ·exact hf.elim
   ·simp only[yu]at hf
    split at hf
    ·rename_i b off t
     subst hf;refine⟨_,⟨fun cs ae=>∃y,t=[y]/\y.cells.length=n/\y.cells.all PV.one=true/\off+n<=cs.length/\ae=splice cs off y.cells,fun _ _ _=>Y⟩,fun M K KP=> ?_⟩
     rcases t with _|⟨y,_|⟨z,l⟩⟩
     ·simp[au]
     ·simp only[au,jM]
      constructor
      ·intro hh
       split at hh
       ·rename_i cs aq
        obtain⟨h1,h2,g,B,G⟩:=hh;exact⟨_,_,⟨cs,_,nC aq,h1,⟨y,rfl,h2,g,B,rfl⟩,rfl,rfl⟩,G⟩
       ·exact hh.elim
      ·rintro⟨v,M',⟨cs,ae,h1,h2,⟨y',hy,g,B,G,rfl⟩,rfl,rfl⟩,I⟩
       simp only[List.cons.injEq,and_true]at hy;subst hy;have:M.box (base+i)=some cs:=by simp[Mem.box,h1]
       rw[this];exact⟨h2,g,B,G,I⟩
     ·simp[au]
    ·exact hf.elim
   ·rw[hw]
    refine⟨fun M v M'=>au C base (.store n) args M (fun u m=>v=u/\M'=m) (fun _ _=>False),trivial,fun M K KP=> ?_⟩;simp only[au]
    rcases args with _|⟨x,_|⟨y,_|⟨z,l⟩⟩⟩
    ·simp
    ·simp
    ·simp only[jM]
     cases x with
     |ptr b off=>cases h1:M.box b<;>simp[h1,and_assoc]
     |jX k ver i off=>cases h1:M.row k ver<;>cases h2:gV y.cells<;>simp[h1,and_assoc]
     | _=>simp
    ·simp
  |copy sz=>
   refine⟨fun M v M'=>∃a,au C base (.copy sz) args ⟨[],[],M.aC⟩ (fun u m=>v=u/\a=m.aC) (fun _ _=>False)/\M'={M with aC:=a},
    ⟨fun aC v a=>au C base (.copy sz) args ⟨[],[],aC⟩ (fun u m=>v=u/\a=m.aC) (fun _ _=>False),fun _ _ _=>Y⟩,fun M K KP=> ?_⟩
   simp only[au]
   split
   ·rename_i k ver skip x
    have D:∀k ver,(⟨[],[],M.aC⟩:Mem).row k ver=M.row k ver:=fun _ _=>rfl
    have ao:Nw x ⟨[],[],M.aC⟩=Nw x M:=by cases x with
     |d x=>cases x<;>rfl
     | _=>rfl
    simp only[D,ao];cases M.row k ver with
    |none=>simp
    |some A=>
     cases Nw x M with
     |none=>simp
     |some ys=>
      simp only;constructor
      ·rintro⟨h1,h2,g,L⟩;exact⟨_,_,⟨_,⟨h1,h2,g,rfl,rfl⟩,rfl⟩,L⟩
      ·rintro⟨v,M',⟨a,⟨h1,h2,g,rfl,rfl⟩,rfl⟩,L⟩;exact⟨h1,h2,g,L⟩
   ·simp
  |ng sz zs is=>
   refine⟨fun M v M'=>∃a,(∃ds xs,gV args=some ds/\qJ sz zs is (ds.map DV.strip)=some xs/\0<sz/\(∀x∈xs,x.fits sz=true)/\v= .tsl M.aC.length 0 0/\a=M.aC++ [some ⟨sz,xs,0,1⟩])/\M'={M with aC:=a},
    ⟨fun aC v a=>∃ds xs,gV args=some ds/\qJ sz zs is (ds.map DV.strip)=some xs/\0<sz/\(∀x∈xs,x.fits sz=true)/\v= .tsl aC.length 0 0/\a=aC++ [some ⟨sz,xs,0,1⟩],fun _ _ _=>Y⟩,fun M K KP=> ?_⟩
   simp only[au];constructor
   ·intro h
    split at h
    ·rename_i ds aw
     split at h
     ·rename_i xs aD
      exact⟨_,_,⟨_,⟨ds,xs,aw,aD,h.1,h.2.1,rfl,rfl⟩,rfl⟩,h.2.2⟩
     ·exact h.elim
    ·exact h.elim
   ·rintro⟨v,M',⟨a,⟨ds,xs,h1,h2,g,B,rfl,rfl⟩,rfl⟩,G⟩
    simp only[h1,h2];exact⟨g,B,G⟩
  |app sz ap=>
   refine⟨fun M v M'=>∃a,au C base (.app sz ap) args ⟨[],[],M.aC⟩ (fun u m=>v=u/\a=m.aC) (fun _ _=>False)/\M'={M with aC:=a},
    ⟨fun aC v a=>au C base (.app sz ap) args ⟨[],[],aC⟩ (fun u m=>v=u/\a=m.aC) (fun _ _=>False),fun _ _ _=>Y⟩,fun M K KP=> ?_⟩
   simp only[au]
   rcases args with _|⟨s,_|⟨x,_|⟨z,l⟩⟩⟩
   ·simp
   ·simp
   ·have D:∀k ver,(⟨[],[],M.aC⟩:Mem).row k ver=M.row k ver:=fun _ _=>rfl
    have P:yg sz x ⟨[],[],M.aC⟩=yg sz x M:=by cases x with
     |d x=>cases x<;>rfl
     | _=>rfl
    simp only[kL,P];cases yg sz x M with
    |none=>simp
    |some ys=>
     simp only
     split
     ·constructor
      ·rintro⟨h1,h2,g,B,G,I,L⟩;exact⟨_,_,⟨_,⟨h1,h2,g,B,G,I,rfl,rfl⟩,rfl⟩,L⟩
      ·rintro⟨v,M',⟨a,⟨h1,h2,g,B,G,I,rfl,rfl⟩,rfl⟩,L⟩;exact⟨h1,h2,g,B,G,I,L⟩
     ·rename_i k ver skip
      simp only[D];cases M.row k ver with
      |none=>simp
      |some A=>
       simp only;constructor
       ·rintro⟨h1,h2,g,B,G,I,L⟩;exact⟨_,_,⟨_,⟨h1,h2,g,B,G,I,rfl,rfl⟩,rfl⟩,L⟩
       ·rintro⟨v,M',⟨a,⟨h1,h2,g,B,G,I,rfl,rfl⟩,rfl⟩,L⟩;exact⟨h1,h2,g,B,G,I,L⟩
     ·simp
   ·simp
  |Ya sz=>
   refine⟨fun M v M'=>∃a,au C base (.Ya sz) args ⟨[],[],M.aC⟩ (fun u m=>v=u/\a=m.aC) (fun _ _=>False)/\M'={M with aC:=a},
    ⟨fun aC v a=>au C base (.Ya sz) args ⟨[],[],aC⟩ (fun u m=>v=u/\a=m.aC) (fun _ _=>False),fun _ _ _=>Y⟩,fun M K KP=> ?_⟩
   simp only[au]
   rcases args with _|⟨s,_|⟨x,_|⟨z,l⟩⟩⟩
   ·simp
   ·simp
   ·have P:yg sz x ⟨[],[],M.aC⟩=yg sz x M:=by cases x with
     |d x=>cases x<;>rfl
     | _=>rfl
    simp only[Qy,P]
    split
    ·constructor
     ·rintro⟨h1,h2,g,B⟩;exact⟨_,_,⟨_,⟨h1,h2,g,rfl,rfl⟩,rfl⟩,B⟩
     ·rintro⟨v,M',⟨a,⟨h1,h2,g,rfl,rfl⟩,rfl⟩,B⟩;exact⟨h1,h2,g,B⟩
    ·simp
   ·simp
  |QM sz=>
   have az:∀(M:Mem) (J:PV->Mem->Prop) (KP:DV->Mem->Prop),au C base (.app sz false) args M J KP↔∃k ver a,(au C base (.app sz false) args ⟨[],[],M.aC⟩ (fun u m=> .tsl k ver 0=u/\a=m.aC) (fun _ _=>False))/\J (.tsl k ver 0) {M with aC:=a}:=by
    intro M J KP;simp only[au]
    rcases args with _|⟨s,_|⟨x,_|⟨z,l⟩⟩⟩
    ·simp
    ·simp
    ·have D:∀k ver,(⟨[],[],M.aC⟩:Mem).row k ver=M.row k ver:=fun _ _=>rfl
     have P:yg sz x ⟨[],[],M.aC⟩=yg sz x M:=by cases x with
      |d x=>cases x<;>rfl
      | _=>rfl
     simp only[kL,P];cases yg sz x M with
     |none=>simp
     |some ys=>
      simp only
      split
      ·constructor
       ·rintro⟨h1,h2,g,B,G,I,L⟩;exact⟨_,_,_,⟨h1,h2,g,B,G,I,rfl,rfl⟩,L⟩
       ·rintro⟨k,ver,a,⟨h1,h2,g,B,G,I,h8,rfl⟩,L⟩;cases h8;exact⟨h1,h2,g,B,G,I,L⟩
      ·rename_i k ver skip
       simp only[D];cases M.row k ver with
       |none=>simp
       |some A=>
        simp only;constructor
        ·rintro⟨h1,h2,g,B,G,I,L⟩;exact⟨_,_,_,⟨h1,h2,g,B,G,I,rfl,rfl⟩,L⟩
        ·rintro⟨k,ver,a,⟨h1,h2,g,B,G,I,h8,rfl⟩,L⟩;cases h8;exact⟨h1,h2,g,B,G,I,L⟩
      ·simp
    ·simp
   have an:∀(M:Mem) (k ver:Nat),M.frz [.tsl k ver 0]={M with aC:=Gh [k] M.aC}:=fun M k ver=>by simp[Mem.frz,kK,lg]
   have am:∀(M:Mem) (k ver:Nat),datum M (.tsl k ver 0)=datum ⟨[],[],M.aC⟩ (.tsl k ver 0):=fun _ _ _=>rfl
   refine⟨fun M v M'=>∃a,(∃k ver H d,(au C base (.app sz false) args ⟨[],[],M.aC⟩ (fun u m=> .tsl k ver 0=u/\H=m.aC) (fun _ _=>False))/\datum ⟨[],[],H⟩ (.tsl k ver 0)=some d/\v= .d d/\a=Gh [k] H)/\M'={M with aC:=a},
    ⟨fun aC v a=>∃k ver H d,(au C base (.app sz false) args ⟨[],[],aC⟩ (fun u m=> .tsl k ver 0=u/\H=m.aC) (fun _ _=>False))/\datum ⟨[],[],H⟩ (.tsl k ver 0)=some d/\v= .d d/\a=Gh [k] H,fun _ _ _=>Y⟩,fun M K KP=> ?_⟩
   have:=az M (fun v M'=>∃d,datum M' v=some d/\K (.d d) (M'.frz [v])) KP;constructor
   ·intro hh
    obtain⟨k,ver,H,h1,d,h2,g⟩:=this.1 hh;rw[am]at h2;rw[an]at g;exact⟨_,_,⟨_,⟨k,ver,H,d,h1,h2,rfl,rfl⟩,rfl⟩,g⟩
   ·rintro⟨_,_,⟨_,⟨k,ver,H,d,h1,h2,rfl,rfl⟩,rfl⟩,g⟩
    exact this.2 ⟨k,ver,H,h1,d,by rw[am];exact h2,by rw[an];exact g⟩
  |kZ f=>
   simp only[kd]at h O
   by_cases ax:fl=1
   ·subst ax
    obtain⟨ds,rfl⟩:=lS (args:=args) hf;have av:∀M:Mem,bV M (ds.map .d)=some ds:=by
     intro M;clear hf h O
     induction ds with
     |nil=>rfl
     |cons d ds ih=>simp only[W,bV,datum,ih]
    simp only[kd,if_true];refine⟨fun M v M'=>∃a,(∃r E,Pure C f (ds.map DV.strip) r E/\((∃x,r= .d x/\yw x=true/\E=[]/\v=r/\a=M.aC)\/((∀A∈E,A.st≠2)/\v=r.shift M.aC.length/\a=M.aC++E.map some)))/\M'={M with aC:=a},
     ⟨fun aC v a=>∃r E,Pure C f (ds.map DV.strip) r E/\((∃x,r= .d x/\yw x=true/\E=[]/\v=r/\a=aC)\/((∀A∈E,A.st≠2)/\v=r.shift aC.length/\a=aC++E.map some)),fun _ _ _=>Y⟩,fun M K KP=> ?_⟩
    simp only[au,Nh,av,Option.some.injEq,BG];constructor
    ·rintro⟨_,rfl,r,E,Z,(⟨x,rfl,g1,rfl,g2⟩|⟨g1,g2⟩)⟩
     ·exact⟨_,M,⟨_,⟨_,_,Z, .inl ⟨x,rfl,g1,rfl,rfl,rfl⟩⟩,rfl⟩,g2⟩
     ·exact⟨_,_,⟨_,⟨_,_,Z, .inr ⟨g1,rfl,rfl⟩⟩,rfl⟩,g2⟩
    ·rintro⟨v,M',⟨a,⟨r,E,Z,(⟨x,rfl,g1,rfl,rfl,rfl⟩|⟨g1,rfl,rfl⟩)⟩,rfl⟩,g2⟩
     ·exact⟨ds,rfl,_,_,Z, .inl ⟨x,rfl,g1,rfl,g2⟩⟩
     ·exact⟨ds,rfl,_,_,Z, .inr ⟨g1,g2⟩⟩
   ·simp_all
  |dU sz zs is=>simp only[kd]at h O;split at h<;>simp_all
  |mkI t=>simp only[kd]at h O;split at h<;>simp_all
  |Jh sz lo hi mx=>simp only[kd]at h O;split at h<;>simp_all
  | _=>simp_all[kd]
end
def Jf (env:List (Nat×PV)):Option (Nat×Bool)->Option Bool
 |none=>some true
 |some (t,a)=>match look env t with| .d (.bool x)=>some (x==a)| .d (.tup [])=>some false| _=>none
section
variable {C:Ctx}{base:Nat}
variable{o:PO}{K:St->Prop}{KP:DV->Mem->Prop}{s:St}
def eX:eH C base o K KP s↔match Jf s.env o.g with
  |some true=>yu base o.fl (o.args.map s.val)/\au C base o.op (o.args.map s.val) s.mem (fun v M=>K ⟨put s.env o.dst v,M⟩) KP
  |some false=>K ⟨put s.env o.dst (.d (.tup [])),s.mem⟩
  |none=>False:=by
 unfold eH Jf;cases f:o.g with
 |none=>exact Y
 |some q=>
  obtain⟨t,a⟩:=q;simp only;generalize look s.env t=p;cases p with
  |d y=>
   cases y with
   |bool x=>
    simp only
    by_cases b:x=a
    ·subst b
     have:¬(x= !x):=by cases x<;>simp
     simp only[beq_self_eq_true,true_implies,this,false_implies,and_true]
    ·have h1:(x==a)=false:=by simp[b]
     have h2:x= !a:=by cases x<;>cases a<;>simp_all
     simp only[h1];constructor
     ·intro h;exact h.2 h2
     ·intro h;exact⟨fun e=>absurd e b,fun _=>h⟩
   |tup c=>cases c<;>exact Y
   | _=>exact Y
  | _=>exact Y
def Opd.isT (d:Nat):Opd->Bool| .t n=>n==d| .c _=>false
def looks (o:PO)(d:Nat):Bool:=o.args.any (Opd.isT d)||(match o.g with|some (t,_)=>t==d|none=>false)
def tX (x y:PO):Bool:=(match x.dst with|some d=> !looks y d&&decide (y.dst≠some d)|none=>true)&&(match y.dst with|some d=> !looks x d|none=>true)
variable{env:List (Nat×PV)}{dst:Option Nat}{v:PV}
def Pj {t:Nat}(h:∀d,dst=some d->t≠d):look (put env dst v) t=look env t:=by
 cases dst with
 |none=>rfl
 |some d=>
  have:(d==t)=false:=by simp;exact fun e=>h d rfl e.symm
  simp[put,look,this]
variable{M:Mem}
def dP {M':Mem}(h:∀d,dst=some d->looks o d=false):
  o.args.map (St.val ⟨put env dst v,M'⟩)=o.args.map (St.val ⟨env,M⟩)/\Jf (put env dst v) o.g=Jf env o.g:=by
 constructor
 ·refine bo fun x e=> ?_
  cases x with
  |c d=>rfl
  |t n=>
   refine Pj fun d hd=> ?_
   have:=h d hd;simp only[looks,bc,List.any_eq_false]at this;have:=this.1 _ e
   simpa[Opd.isT]using this
 ·cases b:o.g with
  |none=>rfl
  |some q=>
   obtain⟨t,a⟩:=q;simp only[Jf];rw[Pj fun d hd=> ?_];have:=h d hd;simp only[looks,b,bc,beq_eq_false_iff_ne]at this;exact this.2
def Ext (K:St->Prop):Prop:=∀s a:St,(∀t,look s.env t=look a.env t)->s.mem=a.mem->K s->K a
def Ext.use (b:Ext K){s a:St}(h:K s)(c:∀t,look s.env t=look a.env t)(d:s.mem=a.mem):K a:=b s a c d h
def iC {c f:Option Nat}{i j:PV}(h:∀d,c=some d->f≠some d)(t:Nat):look (put (put env c i) f j) t=look (put (put env f j) c i) t:=by
 cases c with
 |none=>rfl
 |some a=>
  cases f with
  |none=>rfl
  |some b=>
   have g:a≠b:=fun e=>h a rfl (e▸rfl)
   simp only[put,look]
   by_cases h1:a=t
   ·subst h1
    have:(b==a)=false:=by simp;exact fun e=>g e.symm
    simp[this]
   ·have:(a==t)=false:=by simp[h1]
    simp[this]
def amg {a oi:PO}(hk:(kd a.op a.fl).swap (kd oi.op oi.fl)=true)(m:tX a oi=true){K:St->Prop}{KP:DV->Mem->Prop}(p:Ext K)(s:St)
  (h:eH C base a (fun z=>eH C base oi K KP z) KP s):eH C base oi (fun z=>eH C base a K KP z) KP s:=by
 have y:kd a.op a.fl≠ .x:=by intro e;rw[e]at hk;cases hk
 have o:kd oi.op oi.fl≠ .x:=by intro e;rw[e]at hk;cases hh:kd a.op a.fl<;>rw[hh]at hk<;>cases hk
 simp only[tX,H]at m;obtain⟨i,A⟩:=m;have q:∀d,a.dst=some d->looks oi d=false:=by intro d hd;rw[hd]at i;simp at i;exact i.1
 have hd:∀d,a.dst=some d->oi.dst≠some d:=by intro d hd;rw[hd]at i;simp at i;exact i.2
 have hi:∀d,oi.dst=some d->looks a d=false:=by intro d hd;rw[hd]at A;simpa using A
 obtain⟨env,M⟩:=s;rw[eX]at h⊢;simp only at h⊢;cases j:Jf env a.g with
 |none=>rw[j]at h;exact h.elim
 |some G=>
  rw[j]at h;cases G with
  |false=>
   simp only at h;rw[eX]at h;simp only[(dP (M:=M) (M':=M) q).1,(dP (M:=M) (M':=M) q).2]at h;cases k:Jf env oi.g with
   |none=>rw[k]at h;exact h.elim
   |some t=>
    rw[k]at h;cases t with
    |false=>
     simp only at h⊢;rw[eX];simp only[(dP (M:=M) (M':=M) hi).2,j];exact p.use h (iC hd) rfl
    |true=>
     simp only at h⊢;obtain⟨D,L⟩:=h;obtain⟨R,_,B⟩:=QC (C:=C) o D;obtain⟨v,M',r1,r2⟩:=(B _ _ _).1 L;refine⟨D,(B _ _ _).2 ⟨v,M',r1,?_⟩⟩;rw[eX];simp only[(dP (M:=M) (M':=M') hi).2,j];exact p.use r2 (iC hd) rfl
  |true=>
   simp only at h;obtain⟨f,w⟩:=h;obtain⟨S,O,c⟩:=QC (C:=C) y f;obtain⟨E,r,r1,h⟩:=(c _ _ _).1 w;rw[eX]at h;simp only[(dP (M:=M) (M':=r) q).1,(dP (M:=M) (M':=r) q).2]at h;cases k:Jf env oi.g with
   |none=>rw[k]at h;exact h.elim
   |some t=>
    rw[k]at h;cases t with
    |false=>
     simp only at h⊢;rw[eX];simp only[(dP (M:=M) (M':=M) hi).1,(dP (M:=M) (M':=M) hi).2,j];exact⟨f,(c _ _ _).2 ⟨E,r,r1,p.use h (iC hd) rfl⟩⟩
    |true=>
     simp only at h⊢;obtain⟨n,u⟩:=h;obtain⟨Q,N,l⟩:=QC (C:=C) o n;obtain⟨P,F,r2,h⟩:=(l _ _ _).1 u;obtain⟨b,I,J⟩:=aeT hk O N _ _ _ _ _ r1 r2;refine⟨n,(l _ _ _).2 ⟨P,b,I,?_⟩⟩;rw[eX];simp only[(dP (M:=M) (M':=b) hi).1,(dP (M:=M) (M':=b) hi).2,j];exact⟨f,(c _ _ _).2 ⟨E,F,J,p.use h (iC hd) rfl⟩⟩
def SY.mono {b:Nat}{args:List PV}{M:Mem}{K i:PV->Mem->Prop}{KP:DV->Mem->Prop}(h:SY C b args M K KP)(hk:∀v M',K v M'->i v M'):SY C b args M i KP:=by
 intro X w E f l o n q;obtain⟨fn,d,a,body,h1,h2⟩:=h X w E f l o n q;refine⟨fn,d,a,body,h1,h2.mono fun e w' g=> ?_⟩;cases e with
 |returned v=>obtain⟨p,M',j,k,m⟩:=g;exact⟨p,M',j,hk _ _ k,m⟩
 |panicked c=>exact g
 |outgrown=>exact g
def kV {f:Bool}{l:List PV}{K b:Option Int->List PV->Prop}(hk:∀a l,K a l->b a l)(h:dY f l K):dY f l b:=by
 unfold dY at h⊢
 split at h
 ·exact hk _ _ h
 ·exact hk _ _ h
 ·exact h.elim
variable{op:POp}{args:List PV}
def EW {K I:PV->Mem->Prop}(hk:∀v M',K v M'->I v M')(h:au C base op args M K KP):au C base op args M I KP:=by
 by_cases j:∃fl,kd op fl≠ .x/\yu base fl args
 ·obtain⟨fl,h1,h2⟩:=j
  obtain⟨R,_,J⟩:=QC (C:=C) h1 h2;obtain⟨v,M',r,k⟩:=(J _ _ _).1 h;exact(J _ _ _).2 ⟨v,M',r,hk _ _ k⟩
 ·have G:kd op 0= .x:=by
   by_cases hh:kd op 0= .x
   ·exact hh
   ·exact absurd ⟨0,hh,trivial⟩ j
  cases op with
  |VY sz=>
   simp only[au]at h⊢
   split at h
   ·exact⟨h.1,h.2.1,h.2.2.1,hk _ _ h.2.2.2⟩
   ·exact hk _ _ h
   ·exact h.elim
  |dU sz zs Q=>
   simp only[au]at h⊢
   split at h
   ·rename_i ds e
    try simp only[e]
    split at h
    ·rename_i xs q;(try simp only[q]);exact hk _ _ h
    ·exact h.elim
   ·exact h.elim
  |store n=>
   simp only[au]at h⊢
   split at h
   ·rename_i x y
    simp only[jM]at h⊢
    split at h
    ·split at h
     ·rename_i cs F;(try simp only[F]);exact⟨h.1,h.2.1,h.2.2.1,h.2.2.2.1,hk _ _ h.2.2.2.2⟩
     ·exact h.elim
    ·split at h
     ·rename_i A ds u e;(try simp only[u,e]);exact⟨h.1,h.2.1,h.2.2.1,h.2.2.2.1,h.2.2.2.2.1,hk _ _ h.2.2.2.2.2⟩
     ·exact h.elim
    ·exact h.elim
   ·exact h.elim
  |mkI t=>
   simp only[au]at h⊢
   split at h
   ·split at h
    ·rename_i d hd;(try simp only[hd]);exact hk _ _ h
    ·exact h.elim
   ·exact h.elim
  |Ns lo hi=>
   simp only[au,zx]at h⊢
   split at h
   ·refine kV (fun a l=>kV fun b l=>kV fun m l hh=> ?_) h
    exact⟨hh.1,hh.2.1,hh.2.2.1,hh.2.2.2.1,hh.2.2.2.2.1,hk _ _ hh.2.2.2.2.2⟩
   ·exact h.elim
  |Jh sz lo hi V=>
   simp only[au,zu]at h⊢
   split at h
   ·refine kV (fun a l=>kV fun b l=>kV fun m l hh=> ?_) h
    exact⟨hh.1,hh.2.1,hh.2.2.1,hh.2.2.2.1,hh.2.2.2.2.1,hh.2.2.2.2.2.1,hk _ _ hh.2.2.2.2.2.2⟩
   ·refine kV (fun a l=>kV fun b l=>kV fun m l hh=> ?_) h
    refine⟨hh.1,?_⟩;have h2:=hh.2
    split at h2
    ·rename_i A u
     try simp only[u]
     split at h2
     ·exact⟨h2.1,h2.2.1,h2.2.2.1,h2.2.2.2.1,hk _ _ h2.2.2.2.2⟩
     ·exact⟨h2.1,h2.2.1,h2.2.2.1,h2.2.2.2.1,h2.2.2.2.2.1,hk _ _ h2.2.2.2.2.2⟩
    ·exact h2.elim
   ·exact h.elim
  |call f=>exact SC.mono h hk
  |KY f=>
   obtain⟨P,h1,h2,g⟩:=h;exact⟨P,h1,h2,fun p M' w=>hk _ _ (g p M' w)⟩
  |Fp agg n f=>
   cases args with
   |nil=>exact h
   |cons a L=>
    simp only[au]at h⊢;obtain⟨v,h1,h2⟩:=jZ.1 h;exact jZ.2 ⟨v,h1,SC.mono h2 fun p M' hh=>⟨hh.1,hk _ _ hh.2⟩⟩
  |mkRow sz z=>
   simp only[au]at h⊢
   split at h
   ·exact⟨h.1,h.2.1,h.2.2.1,h.2.2.2.1,h.2.2.2.2.1,hk _ _ h.2.2.2.2.2⟩
   ·exact h.elim
  |s2b=>
   simp only[au]at h⊢
   split at h
   ·exact hk _ _ h
   ·exact h.elim
  |b2s=>
   simp only[au]at h⊢
   split at h
   ·rename_i x
    cases j:yg 0 x M with
    |none=>simp only[j]at h
    |some xs=>
     simp only[j]at h⊢;cases c:bytesOf xs with
     |none=>simp only[c]at h
     |some l=>simp only[c]at h⊢;exact hk _ _ h
   ·exact h.elim
  |clr sz z=>
   simp only[au]at h⊢
   split at h
   ·rename_i k ver skip
    cases u:M.row k ver with
    |none=>simp only[u]at h
    |some A=>simp only[u]at h⊢;exact⟨h.1,h.2.1,h.2.2.1,hk _ _ h.2.2.2⟩
   ·exact h.elim
  |kZ f=>
   obtain⟨ds,h1,r,o,h2,g⟩:=h;refine⟨ds,h1,r,o,h2,g.imp ?_ ?_⟩
   ·rintro⟨x,D,E,N,O⟩;exact⟨x,D,E,N,hk _ _ O⟩
   ·rintro⟨D,E⟩;exact⟨D,hk _ _ E⟩
  |gG f=>
   obtain⟨ds,h1,x,h2,g,B⟩:=h;exact⟨ds,h1,x,h2,g,hk _ _ B⟩
  |yC f=>
   obtain⟨ds,h1,r,o,x,h2,g,B⟩:=h;exact⟨ds,h1,r,o,x,h2,g,hk _ _ B⟩
  |dQ=>
   simp only[au]at h⊢
   split at h
   ·exact⟨h.1,h.2.mono hk⟩
   ·exact⟨h.1,h.2.mono hk⟩
   ·exact SY.mono h hk
   ·exact h.elim
  |ED neq=>
   simp only[au]at h⊢
   split at h
   ·exact hk _ _ h
   ·exact hk _ _ h
   ·exact h.elim
  |rngS i=>
   simp only[au]at h⊢
   split at h
   ·exact⟨h.1,hk _ _ h.2⟩
   ·exact h.elim
  |Zu=>
   simp only[au]at h⊢
   split at h
   ·rename_i b
    cases c:M.box b with
    |none=>simp only[c]at h
    |some cs=>
     simp only[c]at h⊢
     split at h
     ·rename_i s pos T
      refine⟨h.1,?_⟩;have h2:=h.2
      split at h2
      ·rename_i w;rw[if_pos w];exact hk _ _ h2
      ·rename_i w;rw[if_neg w];exact hk _ _ h2
     ·exact h.elim
   ·exact h.elim
  |inv name=>
   simp only[au]at h⊢
   split at h
   ·obtain⟨f,h1,h2,g⟩:=h
    exact⟨f,h1,h2,g.mono hk⟩
   ·exact h.elim
  |ng sz zs Q=>
   simp only[au]at h⊢
   split at h
   ·rename_i ds e
    try simp only[e]
    split at h
    ·rename_i xs q;(try simp only[q]);exact⟨h.1,h.2.1,hk _ _ h.2.2⟩
    ·exact h.elim
   ·exact h.elim
  |mkMap i=>
   simp only[au]at h⊢
   split at h
   ·exact⟨h.1,hk _ _ h.2⟩
   ·exact h.elim
  |Qk H=>
   simp only[au]at h⊢
   split at h
   ·rename_i b k v
    cases c:M.box b with
    |none=>simp only[c]at h
    |some cs=>
     simp only[c]at h⊢
     split at h
     ·rename_i l S
      refine⟨h.1,?_⟩;have h2:=h.2
      split at h2
      ·rename_i U g B;exact hk _ _ h2
      ·exact h2.elim
     ·exact h.elim
   ·exact h.elim
  |Jg ok H z=>
   simp only[au]at h⊢
   split at h
   ·split at h
    ·rename_i h1 h2;(try simp only[h1,h2]);exact hk _ _ h
    ·exact h.elim
   ·rename_i b k
    cases c:M.box b with
    |none=>simp only[c]at h
    |some cs=>
     simp only[c]at h⊢
     split at h
     ·split at h
      ·exact hk _ _ h
      ·exact h.elim
     ·exact h.elim
   ·exact h.elim
  |acf H=>
   simp only[au]at h⊢
   split at h
   ·rename_i b k v
    cases c:M.box b with
    |none=>simp only[c]at h
    |some cs=>
     simp only[c]at h⊢
     split at h
     ·refine⟨h.1,?_⟩
      have h2:=h.2
      split at h2
      ·exact hk _ _ h2
      ·exact h2.elim
     ·exact h.elim
   ·exact h.elim
  |acd H=>
   simp only[au]at h⊢
   split at h
   ·rename_i b k
    cases c:M.box b with
    |none=>simp only[c]at h
    |some cs=>
     simp only[c]at h⊢
     split at h
     ·refine⟨h.1,?_⟩
      have h2:=h.2
      split at h2
      ·exact hk _ _ h2
      ·exact h2.elim
     ·exact h.elim
   ·exact h.elim
  |isNil neq=>
   simp only[au]at h⊢
   split at h
   ·exact⟨fun j=>hk _ _ (h.1 j),fun j b=>hk _ _ (h.2 j b)⟩
   ·exact h.elim
  |panic=>exact h
  | _=>simp[kd]at G
def TG {a:St->Prop}(hk:∀s,K s->a s)(h:eH C base o K KP s):eH C base o a KP s:=by
 rw[eX]at h⊢;cases c:Jf s.env o.g with
 |none=>rw[c]at h;exact h
 |some b=>
  rw[c]at h;cases b with
  |false=>exact hk _ h
  |true=>exact⟨h.1,EW (fun v M' hh=>hk _ hh) h.2⟩
def amk {a:St}(h:∀t,look s.env t=look a.env t)(args:List Opd):args.map s.val=args.map a.val:=by
 refine bo fun x _=> ?_
 cases x with
 |c d=>rfl
 |t n=>exact h n
def LX {a:List (Nat×PV)}(h:∀t,look env t=look a t)(dst:Option Nat)(v:PV)(t:Nat):look (put env dst v) t=look (put a dst v) t:=by
 cases dst with
 |none=>exact h t
 |some d=>simp only[put,look,h]
def af5 (d:Ext K):Ext (eH C base o K KP):=by
 intro s j c i h;rw[eX]at h⊢;have f:Jf j.env o.g=Jf s.env o.g:=by
  cases o.g with
  |none=>rfl
  |some q=>obtain⟨t,e⟩:=q;simp only[Jf,c]
 rw[f,<-amk c,<-i];cases a:Jf s.env o.g with
 |none=>rw[a]at h;exact h
 |some b=>
  rw[a]at h;cases b with
  |false=>exact d.use h (LX c _ _) rfl
  |true=>exact⟨h.1,EW (K:=fun v M=>K ⟨put s.env o.dst v,M⟩) (fun v M' hh=>d.use hh (LX c _ _) rfl) h.2⟩
def ahi {fl:Nat}(h:op= .mov\/(fl=1/\∃ag n,op= .load ag n))(hf:yu base fl args):∃(c:Prop) (v:PV),∀M K KP,au C base op args M K KP↔c/\K v M:=by
 rcases h with rfl|⟨rfl,ag,n,rfl⟩
 ·rcases args with _|⟨x,_|⟨y,l⟩⟩
  ·exact⟨False, .dead,fun M K KP=>by simp[au]⟩
  ·exact⟨True,x,fun M K KP=>by simp[au]⟩
  ·exact⟨False, .dead,fun M K KP=>by simp[au]⟩
 ·obtain⟨ds,rfl⟩:=lS (args:=args) hf
  rcases ds with _|⟨x,_|⟨y,l⟩⟩
  ·exact⟨False, .dead,fun M K KP=>by simp[au]⟩
  ·cases x with
   |aP cs=>exact⟨n<=cs.length,_,fun M K KP=>by simp only[W,ab,au,bY];exact Y⟩
   | _=>exact⟨False, .dead,fun M K KP=>by simp[au,bY]⟩
  ·exact⟨False, .dead,fun M K KP=>by simp[au]⟩
def ajK {a oi:PO}{f:FuncId}(j:a.op= .KY f)(t:oi.op= .mov\/(oi.fl=1/\∃ag n,oi.op= .load ag n))(r:tX a oi=true){K:St->Prop}{KP:DV->Mem->Prop}(x:Ext K)(s:St)
  (h:eH C base a (fun D=>eH C base oi K KP D) KP s):eH C base oi (fun D=>eH C base a K KP D) KP s:=by
 simp only[tX,H]at r;obtain⟨l,E⟩:=r;have i:∀d,a.dst=some d->looks oi d=false:=by intro d hd;rw[hd]at l;simp at l;exact l.1
 have hd:∀d,a.dst=some d->oi.dst≠some d:=by intro d hd;rw[hd]at l;simp at l;exact l.2
 have hi:∀d,oi.dst=some d->looks a d=false:=by intro d hd;rw[hd]at E;simpa using E
 obtain⟨env,M⟩:=s;rw[eX]at h⊢;simp only at h⊢;cases m:Jf env a.g with
 |none=>rw[m]at h;exact h.elim
 |some I=>
  rw[m]at h;cases I with
  |false=>
   simp only at h;rw[eX]at h;simp only[(dP (M:=M) (M':=M) i).1,(dP (M:=M) (M':=M) i).2]at h;cases e:Jf env oi.g with
   |none=>rw[e]at h;exact h.elim
   |some y=>
    rw[e]at h;cases y with
    |false=>
     simp only at h⊢;rw[eX];simp only[(dP (M:=M) (M':=M) hi).2,m];exact x.use h (iC hd) rfl
    |true=>
     simp only at h⊢;obtain⟨F,J⟩:=h;obtain⟨c,v,o⟩:=ahi (C:=C) t F;obtain⟨r1,r2⟩:=(o _ _ _).1 J;refine⟨F,(o _ _ _).2 ⟨r1,?_⟩⟩;rw[eX];simp only[(dP (M:=M) (M':=M) hi).2,m];exact x.use r2 (iC hd) rfl
  |true=>
   simp only[j]at h;obtain⟨w,P,G,⟨q,N,A⟩,B⟩:=h;have b:eH C base oi K KP ⟨put env a.dst q,N⟩:=B q N A;rw[eX]at b;simp only[(dP (M:=M) (M':=N) i).1,(dP (M:=M) (M':=N) i).2]at b;cases e:Jf env oi.g with
   |none=>rw[e]at b;exact b.elim
   |some y=>
    rw[e]at b;cases y with
    |false=>
     simp only;rw[eX];simp only[(dP (M:=M) (M':=M) hi).1,(dP (M:=M) (M':=M) hi).2,m,j];refine⟨w,P,G,⟨q,N,A⟩,fun p M' z=> ?_⟩;have k:eH C base oi K KP ⟨put env a.dst p,M'⟩:=B p M' z;rw[eX]at k;simp only[(dP (M:=M) (M':=M') i).2,e]at k;exact x.use k (iC hd) rfl
    |true=>
     simp only at b⊢;obtain⟨u,b⟩:=b;obtain⟨c,v,o⟩:=ahi (C:=C) t u;refine⟨u,(o _ _ _).2 ⟨((o _ _ _).1 b).1,?_⟩⟩;rw[eX];simp only[(dP (M:=M) (M':=M) hi).1,(dP (M:=M) (M':=M) hi).2,m,j];refine⟨w,P,G,⟨q,N,A⟩,fun p M' z=> ?_⟩;have k:eH C base oi K KP ⟨put env a.dst p,M'⟩:=B p M' z;rw[eX]at k;simp only[(dP (M:=M) (M':=M') i).1,(dP (M:=M) (M':=M') i).2,e]at k;exact x.use ((o _ _ _).1 k.2).2 (iC hd) rfl
def amS (q p:PO):Bool:=
 match q.op,p.op,q.args,p.args with
 | .load ag n, .Fp c d _,[.t a], .t b::_=>ag==c&&n==d&&a==b&&q.fl==0&&p.fl==0&&q.g.isNone&&p.g.isNone
 | .Fp ag n _, .load c d, .t a::_,[.t b]=>ag==c&&n==d&&a==b&&q.fl==0&&p.fl==0&&q.g.isNone&&p.g.isNone
 | .KY _, .mov,_,_=>true
 | .KY _, .load _ _,_,_=>p.fl==1
 | _,_,_,_=>false
def Ua (q p:PO):Bool:=(kd q.op q.fl).swap (kd p.op p.fl)||amS q p
def Zh {agg:Bool}{n:Nat}{x:PV}{b:PV}(h:bY agg n x M fun u=>v=u)(h':bY agg n x M fun u=>b=u):v=b:=by
 unfold bY at h h'
 split at h
 ·split at h
  ·rename_i a;simp only[a]at h';rw[h.2,h'.2]
  ·exact h.elim
 ·rw[h.2,h'.2]
 ·split at h
  ·rename_i a;simp only[a]at h';rw[h.2,h'.2]
  ·exact h.elim
 ·exact h.elim
def xW (a:o.g=none)(hf:o.fl=0):eH C base o K KP s↔au C base o.op (o.args.map s.val) s.mem (fun v M=>K ⟨put s.env o.dst v,M⟩) KP:=by
 unfold eH;rw[a,hf];exact⟨fun h=>h.2,fun h=>⟨trivial,h⟩⟩
def ajL {g oi:PO}(hk:Ua g oi=true)(e:tX g oi=true){K:St->Prop}{KP:DV->Mem->Prop}(q:Ext K)(s:St)
  (h:eH C base g (fun B=>eH C base oi K KP B) KP s):eH C base oi (fun B=>eH C base g K KP B) KP s:=by
 simp only[Ua,aD]at hk
 rcases hk with hk|hk
 ·exact amg hk e q s h
 simp only[tX,H]at e;obtain⟨c,u⟩:=e;have D:∀d,g.dst=some d->looks oi d=false:=by intro d hd;rw[hd]at c;simp at c;exact c.1
 have hd:∀d,g.dst=some d->oi.dst≠some d:=by intro d hd;rw[hd]at c;simp at c;exact c.2
 have hi:∀d,oi.dst=some d->looks g d=false:=by intro d hd;rw[hd]at u;simpa using u
 obtain⟨env,M⟩:=s;unfold amS at hk
 split at hk
 ·rename_i ag n z G f a b r h1 h2 o w
  simp only[H,beq_iff_eq,aL]at hk;obtain⟨⟨⟨⟨⟨⟨rfl,rfl⟩,rfl⟩,j⟩,k⟩,l⟩,m⟩:=hk;rw[xW l j]at h;rw[xW m k];simp only[h1,o,W,ab,au]at h;obtain⟨v,x,i⟩:=jZ.1 h;rw[xW m k]at i;simp only[(dP (M:=M) (M':=M) D).1]at i;simp only[h2,w,W,au]at i⊢;obtain⟨J,E,I⟩:=jZ.1 i;refine jZ.2 ⟨J,E,SC.mono I fun p M' hh=>⟨hh.1,?_⟩⟩;rw[xW l j];simp only[(dP (M:=M) (M':=M') hi).1];simp only[h1,o,W,ab,au];obtain⟨F,r1,r2⟩:=jZ.1 hh.1;have A:=Zh x E;refine jZ.2 ⟨F,r1,q.use hh.2 (fun t=> ?_) rfl⟩;rw[r2,<-A];exact iC hd t
 ·rename_i ag n f z G a r b h1 h2 o w
  simp only[H,beq_iff_eq,aL]at hk;obtain⟨⟨⟨⟨⟨⟨rfl,rfl⟩,rfl⟩,j⟩,k⟩,l⟩,m⟩:=hk;rw[xW l j]at h;rw[xW m k];simp only[h1,o,W,au]at h;obtain⟨v,x,i⟩:=jZ.1 h;simp only[h2,w,W,ab,au];refine jZ.2 ⟨v,x,?_⟩;rw[xW l j];simp only[(dP (M:=M) (M':=M) hi).1];simp only[h1,o,W,au];refine jZ.2 ⟨v,x,SC.mono i fun p M' hh=>⟨hh.1,?_⟩⟩;have y:=hh.2;rw[xW m k]at y;simp only[(dP (M:=M) (M':=M') D).1]at y;simp only[h2,w,W,ab,au]at y;obtain⟨F,r1,r2⟩:=jZ.1 y;obtain⟨L,r3,r4⟩:=jZ.1 hh.1;have A:=Zh r1 r3;refine q.use r2 (fun t=> ?_) rfl;rw[A,r4];exact iC hd t
 ·rename_i f h1 h2
  exact ajK h1 (.inl h2) (by simp only[tX,H];exact⟨c,u⟩) q ⟨env,M⟩ h
 ·rename_i f ag n h1 h2
  exact ajK h1 (.inr ⟨by simpa using hk,ag,n,h2⟩) (by simp only[tX,H];exact⟨c,u⟩) q ⟨env,M⟩ h
 ·cases hk
def Uy (C:Ctx)(base:Nat)(ps:List PO):List Nat->(St->Prop)->(DV->Mem->Prop)->St->Prop
 | [],K,_,s=>K s
 |i::l,K,KP,s=>match ps[i]? with
  |some p=>eH C base p (fun a=>Uy C base ps l K KP a) KP s
  |none=>False
def Z5 {ps:List PO}{K:St->Prop}{KP:DV->Mem->Prop}(a:Ext K):∀l,Ext (Uy C base ps l K KP)
 | []=>a
 |i::l=>by
  intro s d b c h;simp only[Uy]at h⊢
  split at h
  ·rename_i p e;exact af5 (Z5 a l) s d b c h
  ·exact h.elim
def TD {ps:List PO}{i:Nat}{p:PO}(d:ps[i]?=some p){K:St->Prop}{KP:DV->Mem->Prop}(b:Ext K){l2:List Nat}:∀{l1:List Nat} (_:∀j∈l1,∀q,ps[j]?=some q->Ua q p=true/\tX q p=true) {s:St},
  Uy C base ps (l1++i::l2) K KP s->eH C base p (fun f=>Uy C base ps (l1++l2) K KP f) KP s
 | [],_,s,h=>by simpa[Uy,d]using h
 |j::l1,c,s,h=>by
  simp only[br,Uy]at h⊢
  split at h
  ·rename_i q e
   obtain⟨g,k⟩:=c j (by simp) q e
   try simp only[e]
   exact ajL g k (Z5 b _) s (TG (fun f l=>TD d b (fun m a=>c m (by simp[a])) l) h)
  ·exact h.elim
def TF {ps:List PO}{K:St->Prop}{KP:DV->Mem->Prop}:∀(n k:Nat) (s:St),k+n=ps.length->wK C base (ps.drop k) K KP s->Uy C base ps (bk k n) K KP s
 |0,k,s,c,h=>by
  rw[List.drop_eq_nil_of_le (by omega)]at h;exact h
 |n+1,k,s,c,h=>by
  have a:k<ps.length:=by omega
  rw[List.drop_eq_getElem_cons a]at h;simp only[a6,Uy,ao a];exact TG (fun d b=>TF n (k+1) d (by omega) b) h
end
def uO (o:Oper):List Nat:=(o.after.toList.filter (Region.binds .any)).map (·.on)
def Oe (a:List Nat)(ps:List Nat):Nat:=ps.foldl (fun m k=>m|||(1<<<k)|||a.getD k 0) 0
def aa8:List (List Nat)->List Nat->List Nat
 | [],a=>a
 |c::b,a=>aa8 b (a++ [Oe a c])
def adK (a:List Nat)(ps:List PO):Bool:=
 (bq ps.length).all fun i=>(bq i).all fun j=>(a.getD i 0).testBit j||match ps[j]?,ps[i]? with
  |some q,some p=>Ua q p&&tX q p
  | _,_=>false
def Xi (ops:Array Oper)(ps:List PO):Bool:=
 let a:=ops.toList.map uO
 (a.zipIdx.all fun(l,i)=>l.all fun k=>decide (k<i))&&adK (aa8 a []) ps
inductive Rch (pre:List (List Nat)):Nat->Nat->Prop
 |one {j i:Nat} {l:List Nat} (hl:pre[i]?=some l) (h:j∈l):Rch pre j i
 |step {j k i:Nat} {l:List Nat} (hl:pre[i]?=some l) (h:k∈l) (t:Rch pre j k):Rch pre j i
def Zj {pre:List (List Nat)}{b:List Nat}{i:Nat}{l:List Nat}(hl:pre[i]?=some l)(c:∀k j,(b.getD k 0).testBit j=true->Rch pre j k){j:Nat}(h:(Oe b l).testBit j=true):Rch pre j i:=by
 have n:∀(d:List Nat) (m:Nat),(∀k∈d,k∈l)->(m.testBit j=true->Rch pre j i)->(d.foldl (fun m k=>m|||(1<<<k)|||b.getD k 0) m).testBit j=true->Rch pre j i:=by
  intro d
  induction d with
  |nil=>intro m _ g h;exact g h
  |cons k d o=>
   intro m e g h;refine o _ (fun p f=>e p (by simp[f])) (fun a=> ?_) h;simp only[Nat.testBit_or,aD]at a
   rcases a with(a|a)|a
   ·exact g a
   ·rw[Nat.one_shiftLeft,Nat.testBit_two_pow]at a
    simp only[decide_eq_true_eq]at a;subst a;exact .one hl (e _ (by simp))
   ·exact .step hl (e k (by simp)) (c k j a)
 exact n l 0 (fun _ h=>h) (fun h=>by simp at h) h
def OW {pre:List (List Nat)}:∀(rest:List (List Nat)) (a:List Nat),(∀j,rest[j]?=pre[a.length+j]?)->(∀k j,(a.getD k 0).testBit j=true->Rch pre j k)->
  ∀k j,((aa8 rest a).getD k 0).testBit j=true->Rch pre j k
 | [],a,_,h=>h
 |l::rest,a,d,h=>by
  refine OW rest _ (fun j=> ?_) fun k j b=> ?_
  ·have:=d (j+1)
   simp only[List.getElem?_cons_succ]at this;rw[this];simp only[List.length_append,List.length_singleton];congr 1;omega
  ·by_cases e:k<a.length
   ·have:(a++ [Oe a l]).getD k 0=a.getD k 0:=by simp[bO,List.getElem?_append_left e]
    rw[this]at b;exact h k j b
   ·by_cases c:k=a.length
    ·subst c
     have:(a++ [Oe a l]).getD a.length 0=Oe a l:=by simp[bO]
     rw[this]at b;exact Zj (by have:=d 0;simpa using this.symm) h b
    ·have:(a++ [Oe a l]).getD k 0=0:=by
      rw[bO,List.getElem?_eq_none (by simp;omega)];rfl
     rw[this]at b;simp at b
section
variable {C:Ctx}{X:Nat->Prop}{w:World}{E:Emb}{lo:Lo}{ro:Option Nat}
structure Done (ops:Array Oper) (listed:Array Bool) (rest:List Nat):Prop where
 size:listed.size=ops.size
 mem:∀j,j∈rest↔(j<ops.size/\listed.getD j true=false)
 sorted:rest.Pairwise (·<·)
 closed:∀j o,ops[j]?=some o->listed.getD j false=true->∀k∈uO o,listed.getD k false=true
def Og {o:Oper}{k:Nat}:k∈uO o↔∃e∈o.after,Region.binds .any e=true/\e.on=k:=by
 simp[uO,and_assoc]
variable{ops:Array Oper}
def acB {listed:Array Bool}{rest:List Nat}(hd:Done ops listed rest){j i:Nat}(h:Rch (ops.toList.map uO) j i):
  (∀o,ops[i]?=some o->∀k∈uO o,listed.getD k false=true)->listed.getD j false=true:=by
 induction h with
 |one a h=>
  intro hi;simp only[ax,ae,aq]at a;obtain⟨o,b,rfl⟩:=a;exact hi o b _ h
 |step a h t e=>
  intro hi;simp only[ax,ae,aq]at a;obtain⟨o,b,rfl⟩:=a;have d:=hi o b _ h;exact e fun f c=>hd.closed _ f c d
def aee {n:Nat}(ap:∀q,lo.fx=some q->∀o∈ops,o.dst≠some q.1){ps:List PO}(aL:L9 C.P n ops ops.toList ps=true)(N:Xi ops ps=true){base:Nat}{K:St->Prop}{KP:DV->Mem->Prop}{Q:Exit->Act->World->Prop}{w₀:World}{M₀:Mem}{E₀:Emb}
  (R:Ext K)
  (hK:∀s' t w' E',K s'->InS C X lo n s' t w' E'->From w₀ M₀ E₀ w' s'.mem E'->Q .normal t w')
  (ac:∀d M' t w' E' v,KP d M'->Sim C X w' M' E'->From w₀ M₀ E₀ w' M' E'->bK w' (away X M' E') v d->okD lo X t.defers w'->(∀q,lo.fx=some q->t.eval (.tmp q.1)=q.2)->Q (.panic [{v,recovered:=false}]) t w'):
  ∀(f:Nat) (rest:List Nat) (listed:Array Bool),f=rest.length->Done ops listed rest->∀(s:St) (a:Act) (w:World) (E:Emb),InS C X lo n s a w E->From w₀ M₀ E₀ w s.mem E->Uy C base ps rest K KP s->
   wpAnyIn (RF ro) 0 C.P .any ops Q f listed a w:=by
 obtain⟨Y,T⟩:=IU aL;simp only[Array.length_toList]at Y;simp only[Xi,H]at N;obtain⟨G,ah4⟩:=N;have az:∀i o,ops[i]?=some o->∀k∈uO o,k<i:=by
  intro i o A k J;simp only[aR]at G;have:=G (uO o,i) (by
   rw[List.mem_zipIdx_iff_getElem?];simp[A])
  simp only[decide_eq_true_eq]at this;exact this k J
 have aqk:=OW (pre:=ops.toList.map uO) (ops.toList.map uO) [] (fun j=>by simp) (fun k j h=>by simp at h);have apr:∀i j q p,j<i->ps[j]?=some q->ps[i]?=some p->Rch (ops.toList.map uO) j i\/(Ua q p=true/\tX q p=true):=by
  intro i j q p c hq hp;simp only[adK,aR,List.mem_range,aD]at ah4;have hi:i<ps.length:=(ai.1 hp).1
  rcases ah4 i hi j c with h|h
  ·exact .inl (aqk i j h)
  ·rw[hq,hp]at h
   simp only[H]at h;exact .inr h
 intro f
 induction f with
 |zero=>
  intro rest listed hf hd s a w E h u hr;have:rest=[]:=List.length_eq_zero_iff.1 hf.symm;subst this;refine⟨?_,hK s a w E hr h u⟩;cases a0:Region.ready .any ops listed with
  |nil=>rfl
  |cons i l=>
   have F:i∈Region.ready .any ops listed:=by rw[a0];simp
   rw[mem_ready]at F;obtain⟨h0,o,A,_⟩:=F;have:=(hd.mem i).2 ⟨(aE.1 A).1,h0⟩;cases this
 |succ f ih=>
  intro rest listed hf hd s a w E h u hr;refine⟨fun Z=> ?_,fun i hi=> ?_⟩
  ·exfalso
   cases rest with
   |nil=>simp at hf
   |cons i l=>
    obtain⟨z,ax⟩:=(hd.mem i).1 (by simp);have:i∈Region.ready .any ops listed:=by
     rw[mem_ready];refine⟨ax,ops[i],an z,fun e O M=> ?_⟩;have J:=az i ops[i] (an z) e.on (Og.2 ⟨e,O,M,rfl⟩);cases W:listed.getD e.on false with
     |true=>rfl
     |false=>
      have r:e.on<listed.size:=by rw[hd.size];omega
      have I:listed.getD e.on true=false:=by
       simp only[S,an r,a7]at W⊢;exact W
      have m:=(hd.mem e.on).2 ⟨by omega,I⟩
      rcases aM.1 m with a2|m
      ·omega
      ·have:=(am.1 hd.sorted).1 _ m
       omega
    rw[Z]at this;cases this
  ·obtain⟨aw,o,A,B⟩:=mem_ready.1 hi
   have z:i<ops.size:=(aE.1 A).1;have m:=(hd.mem i).2 ⟨z,aw⟩;obtain⟨l1,l2,rfl⟩:=List.append_of_mem m;have L:i<ps.length:=by omega
   obtain⟨o',ab,aqE⟩:=T i ps[i] (ao L);rw[aq,A]at ab;cases ab;have b:=bh.1 hd.sorted;have anY:=TD (C:=C) (base:=base) (ao L) R (l1:=l1) (l2:=l2) (fun j D q hq=>by
    have c:j<i:=b.2.2 j D i (by simp)
    rcases apr i j q ps[i] c hq (ao L)with hr|hc
    ·exfalso
     have W:=acB hd hr fun o2 g k J=>by
      rw[A]at g;cases g;obtain⟨e,O,M,rfl⟩:=Og.1 J;exact B e O M
     have U:=(hd.mem j).1 (by simp[D]);have r:j<listed.size:=by rw[hd.size];exact U.1
     have I:=U.2;simp only[S,an r,a7]at W I;rw[W]at I;cases I
    ·exact hc) hr
   refine ZA ap A aqE h anY (fun s' t w' E' a1 av ae=> ?_) (fun d M' t w' E' v h1 h2 I h4 h5=>ac d M' t w' E' v h1 h2 (u.trans I) h4 h5);refine ih (l1++l2) (listed.setIfInBounds i true) (by simp at hf⊢;omega) ?_ s' t w' E' av (u.trans ae) a1;have a3:=hd.sorted;refine⟨by simp[hd.size],fun j=> ?_,?_,fun j o2 g V k J=> ?_⟩
   ·by_cases c:j=i
    ·subst c
     constructor
     ·intro D
      exfalso
      rcases bA.1 D with D|D
      ·exact absurd (b.2.2 j D j (by simp)) (by omega)
      ·exact absurd ((am.1 b.2.1).1 j D) (by omega)
     ·rintro⟨h1,h2⟩
      exfalso
      have r:j<listed.size:=by rw[hd.size];exact h1
      simp[r]at h2
    ·rw[getD_set_ne true (Ne.symm c)]
     have:=hd.mem j;simp only[bA,aM,c,false_or]at this⊢;exact this
   ·refine bh.2 ⟨b.1,(am.1 b.2.1).2,fun x hx y hy=>b.2.2 x hx y (by simp[hy])⟩
   ·by_cases c:j=i
    ·subst c
     rw[A]at g;cases g;obtain⟨e,O,M,rfl⟩:=Og.1 J;exact getD_set_true (B e O M)
    ·rw[getD_set_ne false (Ne.symm c)]at V
     exact getD_set_true (hd.closed j o2 g V k J)
def abd {n:Nat}(l:∀q,lo.fx=some q->∀o∈ops,o.dst≠some q.1){ps:List PO}(u:C.P.follows .mixedOrders=true)(g:L9 C.P n ops ops.toList ps=true)(k:Xi ops ps=true){base id:Nat}{K:St->Prop}{KP:DV->Mem->Prop}{Q:Exit->Act->World->Prop}
  {s:St}{a:Act}{w₀:World}{M₀:Mem}{E₀:Emb}(f:Ext K)(h:InS C X lo n s a w E)(hf:From w₀ M₀ E₀ w s.mem E)(x:wK C base ps K KP s)
  (t:∀p e w' E',K p->InS C X lo n p e w' E'->From w₀ M₀ E₀ w' p.mem E'->Q .normal e w')
  (i:∀d M' e w' E' v,KP d M'->Sim C X w' M' E'->From w₀ M₀ E₀ w' M' E'->bK w' (away X M' E') v d->okD lo X e.defers w'->(∀q,lo.fx=some q->e.eval (.tmp q.1)=q.2)->Q (.panic [{v,recovered:=false}]) e w'):
  (Code.region id ops true).wpIn (RF ro) 0 C.P Q a w:=by
 refine wpIn_region_any u ?_;have c:ops.size=ps.length:=by simpa using(IU g).1
 have r:Later w {w with drawn:=w.drawn+1}:=⟨rfl,rfl,rfl,ap _,fun _ _=>rfl⟩
 have m:=TF (C:=C) (base:=base) (ps:=ps) (K:=K) (KP:=KP) ps.length 0 s (by simp) (by simpa using x);refine aee (C:=C) (X:=X) l g k f t i ops.size (bk 0 ps.length) (aw ops.size false) (by simp[c]) ?_ s a _ E (h.later r) (hf.trans (r.from s.mem E)) m;refine⟨by simp,fun j=> ?_,?_,fun j o _ b=> ?_⟩
 ·simp only[List.mem_range'_1,bz,true_and,bX,<-c]
  constructor
  ·intro b;exact⟨b,by simp[b]⟩
  ·exact fun b=>b.1
 ·exact List.pairwise_lt_range' ..
 ·exfalso
  simp[Array.getElem?_replicate]at b
  split at b<;>simp at b
end
def wpB (B:FuncId->Prop)(F:Fence)(n:Nat)(P:Program)(c:Code)(Q:Exit->Act->World->Prop)(a:Act)(w:World):Prop:=
 ∀(b:Frame) (k:List Item) (cs:List Frame),b.roundOf=F.round->F.fn b.fn->B b.fn->F.room (cs.length+1+n)->
  ∃e d w',Q e d w'/\ArrivesIn (Machine.fenced P F) P (lone (b.atR a (.code c::k)) cs w) b k cs e d w'
section
variable {B:FuncId->Prop}{F:Fence}{n:Nat}{P:Program}{Q:Exit->Act->World->Prop}{a:Act}{w:World}
variable{c:Code}
def Iy (h:c.wpIn F n P Q a w):wpB B F n P c Q a w:=fun b k cs d e _ f=>h b k cs d e f
def amo (h:wpB (fun _=>True) F n P c Q a w):c.wpIn F n P Q a w:=fun b k cs d e f=>h b k cs d e trivial f
def yc {f:Exit->Act->World->Prop}(h:wpB B F n P c Q a w)(l:∀e a w,Q e a w->f e a w):wpB B F n P c f a w:=
 fun b k cs d j i m=>let⟨e,g,w',q,r⟩:=h b k cs d j i m;⟨e,g,w',l _ _ _ q,r⟩
variable{x y:Code}
def amq (h:wpB B F n P x (Exit.then (wpB B F n P y Q) Q) a w):wpB B F n P (Code.seq x y) Q a w:=by
 intro b k cs j o r q;have f:(lone (b.atR a (.code (.seq x y)::k)) cs w).fenced P F:=fenced_calm o q rfl;obtain⟨e,i,m,g,c⟩:=h b (.code y::k) cs j o r q;cases e with
 |normal=>
  obtain⟨t,s,u,p,d⟩:=g b k cs j o r q;exact⟨t,s,u,p, .of_steps (.head f stepR_seq c) d⟩
 |exit id=>exact⟨_,i,m,g, .of_steps (.one f stepR_seq) (.pass (x:= .code y) rfl (fun _ _=> .inl (by simp)) c)⟩
 |goto l=>exact⟨_,i,m,g, .of_steps (.one f stepR_seq) (.pass (x:= .code y) rfl (fun _ _=> .inl (by simp)) c)⟩
 |ret=>exact⟨_,i,m,g, .of_steps (.one f stepR_seq) (.pass (x:= .code y) rfl (fun _ _=> .inl (by simp)) c)⟩
 |panic v=>exact⟨_,i,m,g, .of_steps (.one f stepR_seq) (.pass (x:= .code y) rfl (fun _ _=> .inl (by simp)) c)⟩
 |outgrown=>exact⟨_,i,m,g, .of_steps (.one f stepR_seq) (.pass (x:= .code y) rfl (fun _ _=> .inl (by simp)) c)⟩
variable{t:Bool}
def aaz {c:Operand}(hc:a.eval c= .bool t)(h:wpB B F n P (if t then x else y) Q a w):wpB B F n P (Code.cond c x y) Q a w:=
 fun b k cs d f j g=>let⟨e,i,w',q,r⟩:=h b k cs d f j g;⟨e,i,w',q, .of_steps (.one (fenced_calm f g rfl) (stepR_cond hc)) r⟩
def Uf {c:Operand}(hc:a.eval c= .bool t)(b:t=true->wpB B F n P x Q a w)
  (hf:t=false->wpB B F n P y Q a w):wpB B F n P (Code.cond c x y) Q a w:=by
 cases t
 ·exact aaz hc (hf rfl)
 ·exact aaz hc (b rfl)
def agt {id:Nat}(h:wpB B F n P c (Exit.inBlock id Q) a w):wpB B F n P (Code.block id c) Q a w:=by
 intro b k cs t r x s;have g:(lone (b.atR a (.code (.block id c)::k)) cs w).fenced P F:=fenced_calm r s rfl;obtain⟨e,j,p,i,d⟩:=h b (.inBlock id::k) cs t r x s;cases e with
 |normal=>exact⟨.normal,j,p,i, .head g stepR_block (StepsIn.trans d (.one (fenced_calm r s rfl) stepR_inBlock))⟩
 |exit f=>
  by_cases hid:f=id
  ·simp only[Exit.inBlock,hid,if_true]at i
   exact⟨.normal,j,p,i, .head g stepR_block (d.1 k (by simp[exitTo,hid]))⟩
  ·simp only[Exit.inBlock,hid,if_false]at i
   have this:(id==f)=false:=by simp;exact fun h=>hid h.symm
   have q:exitTo f (.inBlock id::k)=exitTo f k:=by simp[exitTo,this]
   exact⟨.exit f,j,p,i,fun u m=> .head g stepR_block (d.1 u (by rw[q];exact m)),
    fun o m=>let⟨v,h1,h2⟩:=d.2 o (by rw[q];exact m);⟨v,h1, .head g stepR_block h2⟩⟩
 |goto l=>
  have q:gotoIn l (.inBlock id::k)=gotoIn l k:=by simp[gotoIn]
  exact⟨_,j,p,i,fun u m=> .head g stepR_block (d.1 u (by rw[q];exact m)),
   fun o m=>let⟨v,h1,h2⟩:=d.2 o (by rw[q];exact m);⟨v,h1, .head g stepR_block h2⟩⟩
 |ret=>exact⟨_,j,p,i, .of_steps (.one g stepR_block) d⟩
 |panic y=>exact⟨_,j,p,i, .of_steps (.one g stepR_block) d⟩
 |outgrown=>exact⟨_,j,p,i, .of_steps (.one g stepR_block) d⟩
def ajY (I:Nat->Act->World->Prop)(G:Nat)(D:I G a w)
  (round:∀j a w,I j a w->wpB B F n P c (Exit.then (fun h w'=>∃o,o<j/\I o h w') Q) a w):wpB B F n P (Code.loop c) Q a w:=by
 intro b k cs u q A t;have v:∀j a w,I j a w->
   ∃e h w',Q e h w'/\ArrivesIn (Machine.fenced P F) P (lone (b.atR a (.code c:: .inLoop c::k)) cs w) b k cs e h w':=by
  intro j
  induction j using Nat.strongRecOn with
  | _ j E=>
   intro a w C;obtain⟨e,i,m,f,d⟩:=round j a w C b (.inLoop c::k) cs u q A t;cases e with
   |normal=>
    obtain⟨o,r,p⟩:=f;obtain⟨z,y,H,s,g⟩:=E o r i m p;exact⟨z,y,H,s, .of_steps (StepsIn.trans d (.one (fenced_calm q t rfl) stepR_inLoop)) g⟩
   |exit id=>exact⟨_,i,m,f, .pass (x:= .inLoop c) rfl (fun _ _=> .inl (by simp)) d⟩
   |goto l=>exact⟨_,i,m,f, .pass (x:= .inLoop c) rfl (fun _ _=> .inl (by simp)) d⟩
   |ret=>exact⟨_,i,m,f, .pass (x:= .inLoop c) rfl (fun _ _=> .inl (by simp)) d⟩
   |panic J=>exact⟨_,i,m,f, .pass (x:= .inLoop c) rfl (fun _ _=> .inl (by simp)) d⟩
   |outgrown=>exact⟨_,i,m,f, .pass (x:= .inLoop c) rfl (fun _ _=> .inl (by simp)) d⟩
 obtain⟨e,h,w',f,d⟩:=v _ a w D;exact⟨e,h,w',f, .of_steps (.one (fenced_calm q t rfl) stepR_loop) d⟩
variable{b:Frame}{k:List Item}
def o7 {cs:List Frame}:step P (lone (b.atR a (.code (.scope c)::k)) cs w)= .next (lone (b.atR a (.code c:: .inScope c::k)) cs w):=
 step_lone_go (by simp[stepG,stepG.exec,Frame.atR])
def TY {cs:List Frame}:step P (lone (b.atR a (.inScope c::k)) cs w)= .next (lone (b.atR a k) cs w):=
 step_lone_go (by simp[stepG,stepG.exec,Frame.atR])
def agu (h:wpB B F n P c (Exit.noGoto Q) a w):wpB B F n P (Code.scope c) Q a w:=by
 intro b k cs r m t p;have f:(lone (b.atR a (.code (.scope c)::k)) cs w).fenced P F:=fenced_calm m p rfl;obtain⟨e,i,j,g,d⟩:=h b (.inScope c::k) cs r m t p;cases e with
 |normal=>exact⟨.normal,i,j,g, .head f o7 (StepsIn.trans d (.one (fenced_calm m p rfl) TY))⟩
 |exit id=>
  have s:exitTo id (.inScope c::k)=exitTo id k:=by simp[exitTo]
  exact⟨.exit id,i,j,g,fun u o=> .head f o7 (d.1 u (by rw[s];exact o)),
   fun q o=>let⟨v,h1,h2⟩:=d.2 q (by rw[s];exact o);⟨v,h1, .head f o7 h2⟩⟩
 |goto l=>exact g.elim
 |ret=>exact⟨_,i,j,g, .of_steps (.one f o7) d⟩
 |panic x=>exact⟨_,i,j,g, .of_steps (.one f o7) d⟩
 |outgrown=>exact⟨_,i,j,g, .of_steps (.one f o7) d⟩
def aiZ (B:FuncId->Prop)(F:Fence)(n:Nat)(P:Program)(l:Nat)(Q:Exit->Act->World->Prop)(b:Act):Ending->World->Prop
 | .returned _,d=>∃a e,(Instr.endLoop l).run P d= .ok a e/\
   (match a with
   |none=>Q .normal b e
   |some c=>wpB B F n P c Q b e)
 | .panicked chain,d=>Q (.panic chain) b d
 | .outgrown,_=>LetsOut Q
variable{assign body:Code}
def UG {g:Operand}{ps:Array Tmp}
  (h:∀fn,F.fn fn->B fn->∃(l:Nat) (mark:List Deferred) (O:World) (d:Deferred) (q:World) (f:FuncId) (args:Array Value) (R:World),
   (Instr.enterLoop fn a.tmps ps assign body F.round).run P w= .ok (l,mark) O/\
   (resolve a.eval (rangeCall g l) 0).run P O= .ok d q/\
   (∀G,Target.leads P q d.target d.args=some G->F.fn G)/\
   (invoke d.target d.args).run P q= .ok (.enter f args) R/\
   (F.depth.isSome=true->1<=n)/\
   CallsIn F (n - 1) P f args R (aiZ B F n P l Q {a with defers:=mark++a.defers})):
  wpB B F n P (Code.rangeFunc g ps assign body) Q a w:=by
 intro b k cs E H U I;obtain⟨l,mark,O,d,q,f,args,R,L,r,u,D,hn,V,t⟩:=h b.fn H U;rw[<-E]at L;have T:(lone (b.atR a (.code (.rangeFunc g ps assign body)::k)) cs w).fenced P F:=by
  refine fenced_lone (.inl H) (fun G A=>u G ?_) (Fence.room_le I (by omega));have z:=Frame.eval_atR b a (.code (.rangeFunc g ps assign body)::k);simp only[Frame.atR]at z;simp only[Frame.about,Frame.atR,L,z,r]at A;exact A
 have j:=stepR_rangeFunc (P:=P) (b:=b) (a:=a) (k:=k) (cs:=cs) (w:=w) L r D;have o:F.room ((b.atR {a with defers:=mark++a.defers} (.inRangeFunc l::k)::cs).length+1+(n - 1)):=Fence.room_enter I hn;obtain⟨e,S,fr,K,m,C,i⟩:=t (b.atR {a with defers:=mark++a.defers} (.inRangeFunc l::k)::cs) o;cases e with
 |outgrown=>
  obtain⟨Y,w₀,N⟩:=K;exact⟨.outgrown,Y,w₀,N, .inr (Outgrown.of_steps (.one j) m)⟩
 |returned v=>
  have M:(lone fr (b.atR {a with defers:=mark++a.defers} (.inRangeFunc l::k)::cs) S).fenced P F:=fenced_leaving (C▸V) o i;obtain⟨s,X,y,W⟩:=K;have p:StepsIn (Machine.fenced P F) P (lone (b.atR a (.code (.rangeFunc g ps assign body)::k)) cs w) (lone (b.atR {a with defers:=mark++a.defers} ((s.map Item.code).toList++k)) cs X):=by
   refine .head T j (StepsIn.trans m (.head M ?_ (.one (fenced_calm (fr:=b.atR {a with defers:=mark++a.defers} (.endRangeFunc l::k)) H I rfl) (stepR_endRangeFunc y))));rw[<-finish_atR_inRangeFunc l v];exact step_leave_returned i
  cases s with
  |none=>exact⟨.normal,_,X,W,p⟩
  |some c=>
   obtain⟨Z,J,w₅,N,x⟩:=W b k cs E H U I;exact⟨Z,J,w₅,N, .of_steps p x⟩
 |panicked chain=>
  have M:(lone fr (b.atR {a with defers:=mark++a.defers} (.inRangeFunc l::k)::cs) S).fenced P F:=fenced_leaving (C▸V) o i;refine⟨.panic chain,_,S,K, .inRangeFunc l::k, .head T j (StepsIn.trans m (.one M ?_))⟩;rw[<-Frame.raise_atR];exact step_leave_panicked i
def roundEnd (P:Program)(l:Nat)(R:Ending->World->Prop):Exit->Act->World->Prop
 | .normal,_,w=>∃v w',(Instr.endRound l none).run P w= .ok v w'/\R (.returned v) w'
 | .ret,_,w=>∃v w',(Instr.endRound l (some .ret)).run P w= .ok v w'/\R (.returned v) w'
 | .exit id,_,w=>∃v w',(Instr.endRound l (some (.exit id))).run P w= .ok v w'/\R (.returned v) w'
 | .panic chain,a,w=>a.defers=[]/\R (.panicked chain) w
 | _,_,_=>False
variable{f:FuncId}{R:Ending->World->Prop}
def Tz {l:Nat}{tmps:Array Value}(H:F.fn f)(G:B f)(hf:∃fn,P.funcs[f]?=some fn)
  (h:wpB B (F.inRound l) n P assign (Exit.then (fun q E=>∃z,(Instr.beginRound l).run P E= .ok () z/\wpB B (F.inRound l) n P body (roundEnd P l R) q z) (fun _ _ _=>False))
   {tmps:=tmps,defers:=[]} w):
  RoundIn F n P l f tmps assign body w R:=by
 refine⟨H,fun c cs M=> ?_⟩
 let b:Frame:={(default:Frame)with fn:=f,kind:= .normal,roundOf:=some l}
 have A:Frame.round l f tmps assign body .normal=b.atR {tmps:=tmps,defers:=[]} [.code assign, .beginRound, .code body]:=by
  simp[Frame.round,Frame.atR,b]
 have j:(F.inRound l).room ((c::cs).length+1+n):=M;have i:(F.inRound l).fn b.fn:=H;obtain⟨e,q,E,p,d⟩:=h b [.beginRound, .code body] (c::cs) rfl i G j;rw[<-A]at d;cases e with
 |normal=>
  obtain⟨z,C,o⟩:=p;have y:StepsIn (Machine.fenced P (F.inRound l)) P (lone (b.atR q [.beginRound, .code body]) (c::cs) E) (lone (b.atR q [.code body]) (c::cs) z):=
   .one (fenced_calm (fr:=b.atR q [.beginRound, .code body]) i j rfl) (stepR_beginRound rfl C)
  obtain⟨K,x,J,k,a⟩:=o b [] (c::cs) rfl i G j;cases K with
  |normal=>
   obtain⟨v,u,g,m⟩:=k;exact⟨.returned v,u,m,(StepsIn.trans d y).trans (StepsIn.trans a (.one (fenced_calm (fr:=b.atR x []) i j rfl) (stepR_round_end rfl rfl g)))⟩
  |ret=>
   obtain⟨v,u,g,m⟩:=k;obtain⟨D,r⟩:=a.2 rfl;exact⟨.returned v,u,m,(StepsIn.trans d y).trans (StepsIn.trans r (.one (fenced_calm (fr:=b.atR x (.code .ret::D)) i j rfl) (stepR_round_ret rfl rfl g)))⟩
  |exit id=>
   obtain⟨v,u,g,m⟩:=k;obtain⟨D,L,r⟩:=a.2 rfl rfl;exact⟨.returned v,u,m,(StepsIn.trans d y).trans (StepsIn.trans r (.one (fenced_calm (fr:=b.atR x (.code (.exit id)::D)) i j rfl) (stepR_round_exit rfl rfl L g)))⟩
  |goto t=>exact k.elim
  |panic chain=>
   obtain⟨hd,m⟩:=k;obtain⟨s,r⟩:=a;have I:({b.atR x s with mode:= .panicking chain}:Frame).leaving P J (.panicked chain):=⟨rfl,hd,hf⟩
   refine⟨.panicked chain,J,m,(StepsIn.trans d y).trans (StepsIn.trans r (.one (fenced_leaving (n:=n) i j I) (step_leave_panicked I)))⟩
  |outgrown=>exact k.elim
 |exit id=>exact p.elim
 |goto t=>exact p.elim
 |ret=>exact p.elim
 |panic chain=>exact p.elim
 |outgrown=>exact p.elim
def QU {fn:Func}{args:Array Value}
  (hf:P.funcs[f]?=some fn)(hb:fn.body=some c)(p:F.fn f)(y:B f)
  (h:wpB B F n P c (bodyPostM F n P fn R) {tmps:=args++aw (fn.ntmps - args.size) undef,defers:=[]} w)(x:F.round=none:=by rfl):CallsIn F n P f args w R:=by
 refine⟨p,fun cs u=> ?_⟩
 let b:Frame:={(default:Frame)with fn:=f,kind:= .normal,roundOf:=none}
 have k:Frame.enter P f args .normal=
   b.atR {tmps:=args++aw (fn.ntmps - args.size) undef,defers:=[]} [.code c]:=by
  simp[Frame.enter,Frame.atR,hf,hb,b]
 obtain⟨e,m,w',q,a⟩:=h b [] cs x.symm p y u;rw[<-k]at a;cases e with
 |normal=>
  obtain⟨r,j,d,s,v,g,t⟩:=leaves_stepsInM m.defers .returning w' {b.atR m []with mode:= .returning} cs rfl rfl rfl hf rfl p u q;exact⟨r,j,d,s,ComesIn.of_steps (StepsIn.trans a (.one (fenced_calm (fr:=b.atR m []) p u rfl) (stepR_end rfl))) v,g,t⟩
 |ret=>
  obtain⟨i,o⟩:=a.1 rfl;obtain⟨r,j,d,s,v,g,t⟩:=leaves_stepsInM m.defers .returning w' {b.atR m i with mode:= .returning} cs rfl rfl rfl hf rfl p u q;exact⟨r,j,d,s,ComesIn.of_steps o v,g,t⟩
 |panic chain=>
  obtain⟨i,o⟩:=a;obtain⟨r,j,d,s,v,g,t⟩:=leaves_stepsInM m.defers (.panicking chain) w' {b.atR m i with mode:= .panicking chain} cs rfl rfl rfl hf rfl p u q;exact⟨r,j,d,s,ComesIn.of_steps o v,g,t⟩
 |exit id=>exact q.elim
 |goto l=>exact q.elim
 |outgrown=>exact⟨.outgrown,w',b,q,a.resolve_left (by simp[b]),rfl,trivial⟩
end
def gU:aA->Bool
 | .seq a b=>gU a&&gU b
 | .cond _ a b=>gU a&&gU b
 | .block _ c=>gU c
 | .scope c=>gU c
 | .loop _=>false
 | .nD _ _ _ _ _=>false
 | _=>true
def Ie {C:Ctx}{nb na nb' na':Nat}:∀(pc:aA),gU pc=true->∀(Q:Ex->St->Prop),pwp C nb na pc Q=pwp C nb' na' pc Q
 | .skip,_,_=>rfl
 | .region _ _ _ _ _,_,_=>rfl
 | .exit _,_,_=>rfl
 | .label _,_,_=>rfl
 | .ret,_,_=>rfl
 | .seq a b,h,Q=>by
  simp only[gU,H]at h
  funext s
  simp only[pwp];rw[Ie (nb':=nb') (na':=na') a h.1];simp only[Ie (nb':=nb') (na':=na') b h.2]
 | .cond c a b,h,Q=>by
  simp only[gU,H]at h
  funext s
  simp only[pwp];rw[Ie (nb':=nb') (na':=na') a h.1,Ie (nb':=nb') (na':=na') b h.2]
 | .block id c,h,Q=>by
  simp only[gU]at h
  funext s
  simp only[pwp];rw[Ie (nb':=nb') (na':=na') c h]
 | .scope c,h,Q=>by
  simp only[gU]at h
  funext s
  simp only[pwp];rw[Ie (nb':=nb') (na':=na') c h]
 | .loop _,h,_=>by simp[gU]at h
 | .nD _ _ _ _ _,h,_=>by simp[gU]at h
def EI:aA->Bool
 | .seq a b=>EI a&&EI b
 | .cond _ a b=>EI a&&EI b
 | .block _ c=>EI c
 | .scope c=>EI c
 | .loop c=>EI c
 | .nD _ _ _ _ _=>false
 | _=>true
def lu:∀{pc:aA},gU pc=true->EI pc=true
 | .skip,_=>rfl
 | .region _ _ _ _ _,_=>rfl
 | .exit _,_=>rfl
 | .label _,_=>rfl
 | .ret,_=>rfl
 | .seq a b,h=>by simp only[gU,H]at h;simp[EI,lu h.1,lu h.2]
 | .cond _ a b,h=>by simp only[gU,H]at h;simp[EI,lu h.1,lu h.2]
 | .block _ c,h=>lu (pc:=c) h
 | .scope c,h=>lu (pc:=c) h
 | .loop _,h=>by simp[gU]at h
 | .nD _ _ _ _ _,h=>by simp[gU]at h
def GX (t:Nat):Code->Bool
 | .seq a b=>GX t a&&GX t b
 | .cond _ a b=>GX t a&&GX t b
 | .block _ c=>GX t c
 | .loop c=>GX t c
 | .scope c=>GX t c
 | .region _ ops _=>ops.all fun o=>o.dst !=some t
 | .rangeFunc _ _ _ _=>false
 | _=>true
def chk (P:Program)(n:Nat):Code->aA->Bool
 | .skip, .skip=>true
 | .region _ ops i, .region d k _ _ _=>i==d&&L9 P n ops ops.toList k&&(!d||Xi ops k)
 | .seq a b, .seq p q=>chk P n a p&&chk P n b q
 | .cond c x y, .cond e m o=>Zv c e&&chk P n x m&&chk P n y o
 | .block id c, .block g e=>id==g&&chk P n c e
 | .loop c, .loop e=>chk P n c e
 | .exit id, .exit g=>id==g
 | .scope c, .scope e=>chk P n c e
 | .label l, .label s=>l==s
 | .ret, .ret=>true
 | .rangeFunc f k x y, .nD r h j m o=>Zv f r&&decide (k.toList=h)&&decide h.Nodup&&(h.all (·<n))&&(j.all (·<n))&&chk P n x m&&chk P n y o&&gU m&&gU o
 | _,_=>false
section
variable {C:Ctx}{X:Nat->Prop}
variable{w w':World}{O O':Nat->Prop}
def VT.move (hk:∀b o,¬O b->w.heap[b]?=some o->w'.heap[b]?=some o/\¬O' b){A:Arr}{loc:Option (Nat×Nat×Nat)}{i off:Nat}{v:Value}(h:VT w O A loc i off v):VT w' O' A loc i off v:=by
 refine⟨h.1,?_⟩;cases loc with
 |none=>exact bK.mono hk h.2
 |some q=>exact h.2
def ac0.move (hk:∀b o,¬O b->w.heap[b]?=some o->w'.heap[b]?=some o/\¬O' b){A:Arr}{loc:Option (Nat×Nat×Nat)}{skip:Nat}{v:Value}(h:ac0 w O A loc skip v):ac0 w' O' A loc skip v:=by
 refine⟨h.1,?_⟩;cases loc with
 |none=>exact bK.mono hk h.2
 |some q=>exact h.2
def acZ.move (hk:∀b o,¬O b->w.heap[b]?=some o->w'.heap[b]?=some o/\¬O' b){A:Arr}{loc:Option (Nat×Nat×Nat)}{skip len:Nat}{v:Value}(h:acZ w O A loc skip len v):acZ w' O' A loc skip len v:=by
 refine⟨h.1,?_⟩;cases loc with
 |none=>exact bK.mono hk h.2
 |some q=>exact h.2
mutual
def Rep.move {w w':World}{O O':Nat->Prop}{M:Mem}{E:Emb}(hk:∀b o,¬O b->w.heap[b]?=some o->w'.heap[b]?=some o/\¬O' b):∀{v:Value} {p:PV},Rep w O M E v p->Rep w' O' M E v p
 | _,_, .d h=> .d (h.mono hk)
 | _,_, .ptr g f i=> .ptr g f i
 | _,_, .mref g f i=> .mref g f i
 | _,_, .mV g f i=> .mV g f i
 | _,_, .zT g f i=> .zT g f i
 | _,_, .jX a h=> .jX a fun A l=>by
   obtain⟨h1,h2⟩:=h A l;exact⟨h1,fun e=>by obtain⟨c,j,k⟩:=h2 e;exact⟨c,j,k.move hk⟩⟩
 | _,_, .tsl a h=> .tsl a fun A l=>by
   obtain⟨h1,h2⟩:=h A l;exact⟨h1,fun e=>by obtain⟨c,j,k⟩:=h2 e;exact⟨c,j,k.move hk⟩⟩
 | _,_, .psl a h=> .psl a fun A l=>by
   obtain⟨h1,h2⟩:=h A l;exact⟨h1,fun e=>by obtain⟨c,j,k⟩:=h2 e;exact⟨c,j,k.move hk⟩⟩
 | _,_, .dead=> .dead
 | _,_, .func h1 h2=> .func (aQ.move hk h1) (aQ.move hk h2)
 | _,_, .agg h=> .agg (aQ.move hk h)
 | _,_, .tup h=> .tup (aQ.move hk h)
def aQ.move {w w':World}{O O':Nat->Prop}{M:Mem}{E:Emb}(hk:∀b o,¬O b->w.heap[b]?=some o->w'.heap[b]?=some o/\¬O' b):∀{v:List Value} {p:List PV},aQ w O M E v p->aQ w' O' M E v p
 | _,_, .nil=> .nil
 | _,_, .cons h t=> .cons (Rep.move hk h) (aQ.move hk t)
end
variable{X':Nat->Prop}{w w':World}{M:Mem}{E:Emb}
def Sim.shift (h:Sim C X w M E)(d:∀b,C.low b->X' b)(hlt:∀b,X' b->b<w'.heap.size)(r:∀b,C.low b->w'.heap[b]?=w.heap[b]?)
  (hk:∀b o,¬X b->w.heap[b]?=some o->w'.heap[b]?=some o/\¬X' b):Sim C X' w' M E/\(∀b o,¬away X M E b->w.heap[b]?=some o->w'.heap[b]?=some o/\¬away X' M E b):=by
 have c:∀b o,¬away X M E b->w.heap[b]?=some o->w'.heap[b]?=some o/\¬away X' M E b:=by
  intro b o g f;obtain⟨h1,h2⟩:=hk b o (fun j=>g (.inl j)) f;exact⟨h1,fun j=>j.elim h2 fun i=>g (.inr i)⟩
 refine⟨?_,c⟩;exact
  {glob:=C.keeps w w' h.glob r,iF:=d,xlt:=hlt,iE:=h.iE,bC:=h.bC
   box:=fun b cs g=>by
    obtain⟨a,h1,h2,h3⟩:=h.box b cs g;obtain⟨o,f⟩:=h3.obj;exact⟨a,h1,(hk a o h2 f).2,h3.move (fun o f=>(hk a o h2 f).1) c fun _ _ _ s=>s.move c⟩
   arr:=fun k A p=>by
    obtain⟨h1,h2,h3,n⟩:=h.arr k A p;refine⟨h1,h2,h3,fun a o e q=> ?_⟩;obtain⟨l,vs,T,g2,g3,g4,m⟩:=n a o e q;exact⟨(hk a _ l g2).2,vs,T,(hk a _ l g2).1,g3,g4,m.mono c⟩
   bb:=h.bb,aa:=h.aa,ba:=h.ba}
def Sim.less (h:Sim C X w M E)(hx:∀b,X' b->X b)(a:∀b,C.low b->X' b):Sim C X' w M E:=
 (h.shift a (fun b c=>h.xlt b (hx b c)) (fun _ _=>rfl) fun b o c e=>⟨e,fun d=>c (hx b d)⟩).1
variable{v:Value}{p:PV}
def Rep.less (h:Rep w (away X M E) M E v p)(hx:∀b,X' b->X b):Rep w (away X' M E) M E v p:=
 h.move fun b o c d=>⟨d,fun a=>c (a.imp (hx b) id)⟩
variable{L:Loop}{st:LoopState}{pd:Option Code}
def Np {b:Nat}{st':LoopState}{pd':Option Code}{cells:List PV}(h:Sim C X w M E)(hb:M.boxes[b]?=some (some (.fQ {L with state:=st,pending:=pd}::cells)))(c:b∉M.fz):
  ∃(l:Nat) (tmps:Array Value),E.bx[b]?=some l/\¬X l/\tmps.size=L.tmps.size/\w.heap[l]?=some (.loop {L with state:=st,pending:=pd,tmps:=tmps})/\aQ w (away X M E) M E tmps.toList cells/\
   Sim C X (w.putObj l (.loop {L with state:=st',pending:=pd',tmps:=tmps})) {M with boxes:=M.boxes.set b (some (.fQ {L with state:=st',pending:=pd'}::cells))} E/\
   From w M E (w.putObj l (.loop {L with state:=st',pending:=pd',tmps:=tmps})) {M with boxes:=M.boxes.set b (some (.fQ {L with state:=st',pending:=pd'}::cells))} E:=by
 obtain⟨l,d,f,g⟩:=h.box b _ hb;obtain⟨tmps,r1,r2,r3⟩:=g;have a:=dw r2;obtain⟨i,j⟩:=Nq (cs':= .fQ {L with state:=st',pending:=pd'}::cells) h hb c rfl rfl d (MZ w l (.loop {L with state:=st',pending:=pd',tmps:=tmps}) a)
  fun e=>⟨tmps,r1,by simp[a],r3.from e⟩
 exact⟨l,tmps,d,f,r1,r2,r3,i,j⟩
def Gx:∀(l:List (Nat×Value)) (tmps:Array Value),(l.foldl (fun t (x:Nat×Value)=>t.setIfInBounds x.1 x.2) tmps).size=tmps.size
 | [],_=>rfl
 |x::l,tmps=>by rw[a8,Gx l];simp
def FB {t:Nat}:∀(l:List (Nat×Value)) (tmps:Array Value),(∀x∈l,x.1≠t)->(l.foldl (fun t (x:Nat×Value)=>t.setIfInBounds x.1 x.2) tmps).getD t undef=tmps.getD t undef
 | [],_,_=>rfl
 |x::l,tmps,h=>by
  rw[a8,FB l _ fun y a=>h y (by simp[a])];have:x.1≠t:=h x (by simp);simp only[S,az this]
def VH {R:Value->PV->Prop}{aoY:List (Nat×PV)}{t:Nat}:∀(ps:List Nat) (vs:List Value) (ds:List PV) (tmps:Array Value),vs.length=ps.length->ds.length=ps.length->ps.Nodup->(∀p∈ps,p<tmps.size)->
  (∀(i:Nat) (v:Value) (d:PV),vs[i]?=some v->ds[i]?=some d->R v d)->(t∉ps->R (tmps.getD t undef) (look aoY t))->
  R (((ps.zip vs).foldl (fun t (x:Nat×Value)=>t.setIfInBounds x.1 x.2) tmps).getD t undef) (look (ps.zip ds++aoY) t)
 | [],_,_,_,_,_,_,_,_,h=>by simpa using h
 |p::ps,[],_,_,h,_,_,_,_,_=>by simp at h
 |p::ps,_::_,[],_,_,h,_,_,_,_=>by simp at h
 |p::ps,v::vs,d::ds,tmps,h1,h2,c,a,f,g=>by
  rw[List.nodup_cons]at c;simp only[List.zip_cons_cons,a8,br,look]
  by_cases b:p=t
  ·subst b
   simp only[beq_self_eq_true,cond_true];rw[FB _ _ fun x m e=>c.1 (by rw[<-e];exact(List.of_mem_zip m).1)];have:p<tmps.size:=a p (by simp);have e:(tmps.setIfInBounds p v).getD p undef=v:=by simp[S,this]
   rw[e];exact f 0 v d rfl rfl
  ·have:(p==t)=false:=by simp[b]
   simp only[this,cond_false];refine VH ps vs ds _ (by simpa using h1) (by simpa using h2) c.2 (fun q j=>by simpa using a q (by simp[j])) (fun i v d l hd=>f (i+1) v d (by simpa using l) (by simpa using hd)) fun k=> ?_
   have e:(tmps.setIfInBounds p v).getD t undef=tmps.getD t undef:=by simp only[S,az b]
   rw[e];exact g (by simp[k,Ne.symm b])
variable{s:St}
def Xd {n:Nat}{keys:List Nat}(hk:keys.all (·<n)=true)(t:Nat):look (iq s.env keys) t= .dead\/(t<n/\look (iq s.env keys) t=look s.env t):=by
 induction keys with
 |nil=>exact .inl rfl
 |cons k b a=>
  simp only[bL,H,decide_eq_true_eq]at hk;simp only[iq,W,look]
  by_cases h:k=t
  ·subst h;simp[hk.1]
  ·have:(k==t)=false:=by simp[h]
   simp only[this,cond_false];exact a hk.2
def InS.from {lo:Lo}{n:Nat}{s:St}{a:Act}{w w':World}{E E':Emb}{M':Mem}(h:InS C X lo n s a w E)(b:Sim C X w' M' E')(hf:From w s.mem E w' M' E'):InS C X lo n ⟨s.env,M'⟩ a w' E':={
 sim:=b
 env:=fun t=>(h.env t).from hf
 size:=h.size
 defers:=h.defers.from h.sim hf
 fix:=h.fix}
def Pm {cells:List PV}{xb:List (Option (List PV))}{xf:List Nat}{xa:List (Option Arr)}:(dN M L st pd cells xb xf xa).boxes[M.boxes.length]?=some (some (.fQ {L with state:=st,pending:=pd}::cells)):=by simp[dN]
def anE {O:Nat->Prop}{g:FuncId}{fs cs:List PV}(h:Rep w O M E v p)(hf:ahI p=some (g,fs,cs)):
  ∃Fs c,v= .func (.func g) Fs c/\aQ w O M E Fs.toList fs/\aQ w O M E c.toList cs:=by
 unfold ahI at hf
 split at hf
 ·cases hf
  have hd:=h.toD;cases hd with
  |func b a=>exact⟨_,_,rfl,aQ.ofD b,aQ.ofD a⟩
 ·cases hf
  cases h with
  |func b a=>exact⟨_,_,rfl,b,a⟩
 ·cases hf
def jW (hm:C.P.follows .mixedOrders=true){n:Nat}:∀(c:Code) (pc:aA) {X:Nat->Prop} {w₀:World} {M₀:Mem} {E₀:Emb} {nb na:Nat} (_:M₀.boxes.length<=nb) (_:M₀.aC.length<=na) (B:FuncId->Prop) (_:(∀g,B g->∃fn,C.P.funcs[g]?=some fn)\/EI pc=true) (ro:Option Nat) (j:List Deferred) (ex:Bool) (fx:Option (Nat×Value)) (Q:Ex->St->Prop) (s:St) (a:Act) (w:World) (E:Emb),
  (∀q,fx=some q->GX q.1 c=true)->(ro=none\/gU pc=true)->(ex=true->gU pc=true)->chk C.P n c pc=true->pwp C nb na pc Q s->InS C X ⟨w₀.heap.size,j,ex,fx⟩ n s a w E->From w₀ M₀ E₀ w s.mem E->wpB B (RF ro) 0 C.P c (Post C X n w₀ M₀ E₀ j ex fx Q) a w
 | .skip,pc,X,w₀,M₀,E₀,nb,na,J,ha,B,hB,ro,j,ex,fx,Q,s,a,w,E,N,A,z,O,h,hi,V=>by
  cases pc<;>simp only[chk,U]at O
  exact Iy (wpIn_skip ⟨X,s,E,fun _ h=>h,h,hi,V⟩)
 | .label l,pc,X,w₀,M₀,E₀,nb,na,J,ha,B,hB,ro,j,ex,fx,Q,s,a,w,E,N,A,z,O,h,hi,V=>by
  cases pc<;>simp only[chk,U]at O
  exact Iy (wpIn_label ⟨X,s,E,fun _ h=>h,h,hi,V⟩)
 | .exit id,pc,X,w₀,M₀,E₀,nb,na,J,ha,B,hB,ro,j,ex,fx,Q,s,a,w,E,N,A,z,O,h,hi,V=>by
  cases pc<;>simp only[chk,U,beq_iff_eq]at O
  subst O;exact Iy (wpIn_exit ⟨X,s,E,fun _ h=>h,h,hi,V⟩)
 | .ret,pc,X,w₀,M₀,E₀,nb,na,J,ha,B,hB,ro,j,ex,fx,Q,s,a,w,E,N,A,z,O,h,hi,V=>by
  cases pc<;>simp only[chk,U]at O
  exact Iy (wpIn_ret ⟨X,s,E,fun _ h=>h,h,hi,V⟩)
 | .region id ops b0,pc,X,w₀,M₀,E₀,nb,na,J,ha,B,hB,ro,j,ex,fx,Q,s,a,w,E,N,A,z,O,h,hi,V=>by
  cases pc<;>simp only[chk,U]at O
  rename_i d ps acj keep fz
  simp only[H,beq_iff_eq]at O;obtain⟨⟨rfl,cg⟩,cB⟩:=O;simp only[pwp]at h;obtain⟨i1,f1⟩:=hi.reserve acj;have hK:∀s' a' w' E',(fun s':St=>sQ fz (Q .normal) ⟨iq s'.env keep,s'.mem⟩) s'->InS C X ⟨w₀.heap.size,j,ex,fx⟩ n s' a' w' E'->From w₀ M₀ E₀ w' s'.mem E'->Post C X n w₀ M₀ E₀ j ex fx Q .normal a' w':=by
   intro s' a' w' E' hk cG cC;obtain⟨s2,g1,g2,g3⟩:=O8 hk cG.keep;exact⟨X,s2,E',fun _ h=>h,g1,g2,cC.trans g3⟩
  have b9:∀d M' a' w' E' v,(fun d M=>Q (.panic d) ⟨[],M⟩) d M'->Sim C X w' M' E'->From w₀ M₀ E₀ w' M' E'->bK w' (away X M' E') v d->okD ⟨w₀.heap.size,j,ex,fx⟩ X a'.defers w'->(∀q,fx=some q->a'.eval (.tmp q.1)=q.2)->Post C X n w₀ M₀ E₀ j ex fx Q (.panic [{v,recovered:=false}]) a' w':=by
   intro d M' a' w' E' v h1 h2 h3 h4 h5 h6;exact⟨X,v,d,M',E',fun _ h=>h,rfl,h1,h2,h3,h4,h5,h6⟩
  have cf:∀q,(⟨w₀.heap.size,j,ex,fx⟩:Lo).fx=some q->∀o∈ops,o.dst≠some q.1:=fun q hq o ho=>by
   have:=N q hq;simp only[GX,Array.all_eq_true']at this
   simpa using this o ho
  cases b0 with
  |false=>exact Iy (wpIn_region (XW cf cg i1 (V.trans f1) h hK b9))
  |true=>
   refine Iy (abd cf hm cg (by simpa using cB) ?_ i1 (V.trans f1) h hK b9);intro s1 s2 he a9 hk;have:iq s1.env keep=iq s2.env keep:=by simp only[iq,he]
   simp only[this,a9]at hk;exact hk
 | .seq x y,pc,X,w₀,M₀,E₀,nb,na,J,ha,B,hB,ro,j,ex,fx,Q,s,a,w,E,N,A,z,O,h,hi,V=>by
  cases pc<;>simp only[chk,U,H]at O
  simp only[gU,H]at A z;simp only[pwp]at h;refine amq (yc (jW hm x _ J ha B (hB.imp id fun e=>(Z.1 e).1) ro j ex fx _ s a w E (fun q hq=>(Z.1 (N q hq)).1) (A.imp id And.left) (fun e=>(z e).1) O.1 h hi V) fun e a' w' T=> ?_);cases e with
  |normal=>
   obtain⟨X',s',E',hx,h1,h2,h3⟩:=T;exact yc (jW hm y _ J ha B (hB.imp id fun e=>(Z.1 e).2) ro j ex fx Q s' a' w' E' (fun q hq=>(Z.1 (N q hq)).2) (A.imp id b5) (fun e=>(z e).2) O.2 h1 h2 h3) fun e a w T=>T.up hx
  |exit id=>exact T
  |ret=>exact T
  |panic ch=>exact T
  |goto l=>exact T.elim
  |outgrown=>exact T.elim
 | .cond c x y,pc,X,w₀,M₀,E₀,nb,na,J,ha,B,hB,ro,j,ex,fx,Q,s,a,w,E,N,A,z,O,h,hi,V=>by
  cases pc<;>simp only[chk,U,H]at O
  simp only[gU,H]at A z;obtain⟨⟨O,hx⟩,hy⟩:=O;simp only[pwp]at h
  split at h
  ·rename_i t ht
   have hv:=XR hi O;rw[ht]at hv;refine Uf hv.toD.nT (fun e=> ?_) (fun e=> ?_)
   ·exact jW hm x _ J ha B (hB.imp id fun e=>(Z.1 e).1) ro j ex fx Q s a w E (fun q hq=>(Z.1 (N q hq)).1) (A.imp id And.left) (fun e=>(z e).1) hx (h.1 e) hi V
   ·exact jW hm y _ J ha B (hB.imp id fun e=>(Z.1 e).2) ro j ex fx Q s a w E (fun q hq=>(Z.1 (N q hq)).2) (A.imp id b5) (fun e=>(z e).2) hy (h.2 e) hi V
  ·exact h.elim
 | .block id c,pc,X,w₀,M₀,E₀,nb,na,J,ha,B,hB,ro,j,ex,fx,Q,s,a,w,E,N,A,z,O,h,hi,V=>by
  cases pc<;>simp only[chk,U,H,beq_iff_eq]at O
  simp only[gU]at A z;obtain⟨rfl,O⟩:=O;simp only[pwp]at h;refine agt (yc (jW hm c _ J ha B (by simp only[EI]at hB;exact hB) ro j ex fx _ s a w E N A z O h hi V) fun e a' w' T=> ?_);cases e with
  |normal=>exact T
  |exit cY=>
   obtain⟨X',s',E',hx,h1,h2,h3⟩:=T;simp only[Exit.inBlock];simp only at h1
   split at h1
   ·rename_i hid;rw[if_pos hid];exact⟨X',s',E',hx,h1,h2,h3⟩
   ·rename_i hid;rw[if_neg hid];exact⟨X',s',E',hx,h1,h2,h3⟩
  |ret=>exact T
  |panic ch=>exact T
  |goto l=>exact T.elim
  |outgrown=>exact T.elim
 | .loop c,pc,X,w₀,M₀,E₀,nb,na,J,ha,B,hB,ro,j,ex,fx,Q,s,a,w,E,N,A,z,O,h,hi,V=>by
  cases pc<;>simp only[chk,U]at O
  simp only[gU,U,or_false]at A z;simp only[pwp]at h;obtain⟨I,k,h0,hr⟩:=h;refine ajY (fun k a w=>∃(X':Nat->Prop) (s:St) (E:Emb),(∀b,X b->X' b)/\I k s/\InS C X' ⟨w₀.heap.size,j,ex,fx⟩ n s a w E/\From w₀ M₀ E₀ w s.mem E) k ⟨X,s,E,fun _ h=>h,h0,hi,V⟩ ?_;rintro k' a' w' ⟨X',s',E',hx,g1,g2,g3⟩;refine yc (jW hm c _ J ha B (by simp only[EI]at hB;exact hB) ro j ex fx _ s' a' w' E' N (.inl A) (fun e=>(z e).elim) O (hr k' s' g1) g2 g3) fun e a2 w2 T=> ?_
  cases e with
  |normal=>
   obtain⟨X2,s2,E2,cU,⟨k2,s3,q1,q2,q3⟩,h2,h3⟩:=T;obtain⟨E3,r1,r2⟩:=acT h2 h3 J ha q2;exact⟨k2,q1,X2,s3,E3,fun b J=>cU b (hx b J),q3,r1,r2⟩
  |exit id=>obtain⟨X2,s2,E2,q1,q2⟩:=T;exact⟨X2,s2,E2,fun b J=>q1 b (hx b J),q2⟩
  |ret=>obtain⟨X2,s2,E2,q1,q2⟩:=T;exact⟨X2,s2,E2,fun b J=>q1 b (hx b J),q2⟩
  |panic ch=>obtain⟨X2,v2,d2,M2,E2,q1,q2⟩:=T;exact⟨X2,v2,d2,M2,E2,fun b J=>q1 b (hx b J),q2⟩
  |goto l=>exact T.elim
  |outgrown=>exact T.elim
 | .scope c,pc,X,w₀,M₀,E₀,nb,na,J,ha,B,hB,ro,j,ex,fx,Q,s,a,w,E,N,A,z,O,h,hi,V=>by
  cases pc<;>simp only[chk,U]at O
  simp only[gU]at A z;simp only[pwp]at h;refine agu (yc (jW hm c _ J ha B (by simp only[EI]at hB;exact hB) ro j ex fx Q s a w E N A z O h hi V) fun e a' w' T=> ?_);cases e with
  |goto l=>exact T.elim
  | _=>exact T
 | .goto l,pc,X,w₀,M₀,E₀,nb,na,J,ha,B,hB,ro,j,ex,fx,Q,s,a,w,E,N,A,z,O,h,hi,V=>by cases pc<;>simp[chk]at O
 | .refuse r,pc,X,w₀,M₀,E₀,nb,na,J,ha,B,hB,ro,j,ex,fx,Q,s,a,w,E,N,A,z,O,h,hi,V=>by cases pc<;>simp[chk]at O
 | .rangeFunc f ps x y,pc,X,w₀,M₀,E₀,nb,na,J,ha,B,hB,ro,j,ex,fx,Q,s,a,w,E,N,A,z,O,h,hi,V=>by
  cases pc<;>simp only[chk,U,H,decide_eq_true_eq]at O
  rename_i f' c0 br x' y'
  simp only[gU,U,or_false]at A z;subst A;obtain⟨⟨⟨⟨⟨⟨⟨⟨cw,rfl⟩,N⟩,cM⟩,cJ⟩,cz⟩,cA⟩,bR⟩,bS⟩:=O;simp only[pwp]at h;obtain⟨g,fs,cs,cF,bw,Dp,h⟩:=h;obtain⟨Fs,Cs,ape,cE,cD⟩:=anE (XR hi cw) cF
  ·
   obtain⟨D,hD⟩:∃D,D=w.heap.size:=⟨_,rfl⟩
   obtain⟨w1,bo⟩:∃w1,w1=w.alloc (.deferred (some [])):=⟨_,rfl⟩
   have b6:∀g,B g->∃fn,C.P.funcs[g]?=some fn:=hB.resolve_right (by simp[EI])
   refine UG ?_;intro fn _ b7;obtain⟨L,hL⟩:∃L:Loop,L={state:= .ready,pending:=none,fn:=fn,tmps:=a.tmps,params:=ps,assign:=x,body:=y,defers:=D}:=⟨_,rfl⟩
   have bu:L.tmps=a.tmps:=by rw[hL]
   have bX:L.tmps.size=n:=by rw[bu,hi.size]
   obtain⟨cells,ae⟩:∃cells,cells=(bq L.tmps.size).map (look s.env):=⟨_,rfl⟩
   have h:=h L (by rw[hL]);rw[<-ae]at h;obtain⟨lp,bL⟩:∃lp,lp=w.heap.size+1:=⟨_,rfl⟩
   have bi:Later w w1:=bo▸Later.alloc w _;have cj:w1.heap.size=w.heap.size+1:=by rw[bo];simp
   have ao6:w1.heap[D]?=some (.deferred (some [])):=by rw[bo,hD];exact heap_alloc_new w _
   obtain⟨X',a0⟩:∃X':Nat->Prop,X'=fun b=>X b\/b=D:=⟨_,rfl⟩
   have aL:∀b,X b->X' b:=fun b J=>by rw[a0];exact .inl J
   have cI:∀b o,¬X b->w.heap[b]?=some o->w1.heap[b]?=some o/\¬X' b:=by
    intro b o J ho;refine⟨bi.jG ho,?_⟩;rw[a0];rintro(hx|rfl)
    ·exact J hx
    ·have:=dw ho;omega
   obtain⟨cb,bB⟩:=hi.sim.shift (X':=X') (w':=w1) (fun b J=>aL b (hi.sim.iF b J)) (fun b J=>by
     rw[a0]at J
     rcases J with J|rfl
     ·have:=hi.sim.xlt b J;omega
     ·omega) (fun b J=>bi.keep b (hi.sim.xlt b (hi.sim.iF b J))) cI
   have aE:InS C X' ⟨w₀.heap.size,j,ex,fx⟩ n s a w1 E:=
    {sim:=cb,env:=fun t=>(hi.env t).move bB,size:=hi.size,fix:=hi.fix
     defers:=by
      obtain⟨ms,hms,⟨a7,a8⟩,bj⟩:=hi.defers;exact⟨ms,hms,⟨fun d hd=>by
       obtain⟨D',q1,q2,q3,q4⟩:=a7 d hd;exact⟨D',q1,q2,aL _ q3,bi.jG q4⟩,a8⟩,bj⟩}
   obtain⟨cq,bz⟩:=P9 cb 1;have bE:E.bx.length=s.mem.boxes.length:=hi.sim.iE;obtain⟨cr,ce⟩:=XH (o:= .loop L) (id:=s.mem.boxes.length) (cs:= .fQ {L with state:= .ready,pending:=none}::cells) cq (by simp) (fun aqs=>by
    refine⟨a.tmps,by rw[bu],?_,?_⟩
    ·rw[heap_alloc_new];rw[hL]
    ·have:aQ w1 (away X' s.mem E) s.mem E a.tmps.toList cells:=by
      rw[ae,bu];have cW:∀(m:Nat) (l:List Value),(∀i v,l[i]?=some v->a.tmps[m+i]?=some v)->aQ w1 (away X' s.mem E) s.mem E l ((bk m l.length).map (look s.env)):=by
       intro m l
       induction l generalizing m with
       |nil=>intro _;exact .nil
       |cons v l ih=>
        intro hv;rw[bt,a6,W];refine .cons ?_ (ih (m+1) fun i u hu=>by
         have:=hv (i+1) u (by simpa using hu);rw[<-this];congr 1;omega)
        have h0:=aE.env m;have h1:=hv 0 v rfl;simp only[Nat.add_zero]at h1
        simpa[Act.eval,S,h1]using h0
      have:=cW 0 a.tmps.toList (fun i v hv=>by simpa using hv)
      simpa[bl]using this
     exact(this.from bz).from aqs)
   have cR:(w1.alloc (.loop L)).heap[lp]?=some (.loop L):=by
    have:=heap_alloc_new w1 (.loop L)
    rwa [cj,<-bL]at this
   have e1:({boxes:=(s.mem.boxes++av 1 none).set s.mem.boxes.length (some (.fQ {L with state:= .ready,pending:=none}::cells)),fz:=s.mem.fz,aC:=s.mem.aC}:Mem)=dN s.mem L .ready none cells [] [] []:=by
    simp[dN]
   obtain⟨E1,be⟩:∃E1:Emb,E1={bx:=(E.bx++av 1 0).set s.mem.boxes.length w1.heap.size,ar:=E.ar}:=⟨_,rfl⟩
   obtain⟨w2,ah6⟩:∃w2,w2=w1.alloc (.loop L):=⟨_,rfl⟩
   have ct:Sim C X' w2 (dN s.mem L .ready none cells [] [] []) E1:=by rw[<-e1,be,ah6];exact cr
   have b8:From w s.mem E w2 (dN s.mem L .ready none cells [] [] []) E1:=by
    rw[<-e1,be,ah6];exact((bi.from s.mem E).trans bz).trans ce
   have abH:From w1 s.mem E w2 (dN s.mem L .ready none cells [] [] []) E1:=by
    rw[<-e1,be,ah6];exact bz.trans ce
   have cc:E1.bx[s.mem.boxes.length]?=some lp:=by
    rw[be,bL,cj];simp[bE]
   rw[<-ah6]at cR;have fV:∀(args:List DV) (K:PV->Mem->Prop) (KP:DV->Mem->Prop) (My:Mem),args.length=ps.toList.length->My.boxes[s.mem.boxes.length]?=some (some (.fQ {L with state:= .ready,pending:=none}::cells))->s.mem.boxes.length∉My.fz->
     pwp C nb na x' (fun e s1=>e= .normal/\s1.mem=My/\pwp C nb na y' (ai5 s.mem.boxes.length L K KP) ⟨s1.env,{My with boxes:=My.boxes.set s.mem.boxes.length (some (.fQ {L with state:= .busy,pending:=none}::cells))}⟩)
      ⟨ps.toList.zip (args.map .d)++iq s.env br,My⟩->
     SY C s.mem.boxes.length (args.map .d) My K KP:=by
    intro args K KP My bp az apf T Xy wy Ey aw l bh b4 bN;obtain⟨l',ac,q1,q2,q3,q4,q5,_,_⟩:=Np (st':= .busy) (pd':=none) bh az apf;rw[bN]at q1;cases q1;have ca:L.params=ps:=by rw[hL]
    have cp:L.fn=fn:=by rw[hL]
    have cm:L.assign=x:=by rw[hL]
    have cn:L.body=y:=by rw[hL]
    have ck:aw.length=ps.toList.length:=by rw[b4.length,List.length_map,bp]
    have hy:=run_yield (P:=C.P) (args:=aw.toArray) q4 (by simp only[ca];simpa using ck);simp only[cp]at hy;refine⟨_,_,_,_,hy,Tz (F:=Fence.wide) (n:=0) (B:=B) trivial b7 (b6 _ b7) ?_⟩;simp only[ca,cm,cn];have a4:((ps.zip aw.toArray).foldl (fun ac (x:Nat×Value)=>ac.setIfInBounds x.1 x.2) ac)=((ps.toList.zip aw).foldl (fun t (x:Nat×Value)=>t.setIfInBounds x.1 x.2) ac):=by
     rw[<-Array.foldl_toList];simp
    have cH:InS C Xy ⟨wy.heap.size,[],true,none⟩ n ⟨ps.toList.zip (args.map .d)++iq s.env br,My⟩
      {tmps:=(ps.zip aw.toArray).foldl (fun ac (x:Nat×Value)=>ac.setIfInBounds x.1 x.2) ac,defers:=[]} wy Ey:=
     {sim:=bh
      size:=by simp only[a4,Gx,q3,bX]
      fix:=fun _ h=>by cases h
      defers:=EK
      env:=fun t=>by
       simp only[Act.eval,a4];refine VH (R:=fun v p=>Rep wy (away Xy My Ey) My Ey v p) _ _ _ _ ck (by simpa using bp) N (fun p T=> ?_) (fun i v d hv hd=> ?_) fun _=> ?_
       ·have:=aR.1 cM p T
        rw[q3,bX];simpa using this
       ·obtain⟨v',g1,g2⟩:=b4.get' i d hd
        rw[hv]at g1;cases g1;exact g2
       ·rcases Xd (s:=s) cJ t with he|⟨ht,he⟩
        ·rw[he];exact .dead
        ·rw[he]
         have O:cells[t]?=some (look s.env t):=by rw[ae];simp[bX,ht]
         obtain⟨v',g1,g2⟩:=q5.get' t _ O;have:ac.getD t undef=v':=by
          rw[aq]at g1;simp[S,g1]
         rw[this];exact g2}
    have ao5:∀{pc:aA},(∀g,B g->∃fn,C.P.funcs[g]?=some fn)\/EI pc=true:= .inl b6
    have cT:=jW hm x x' (M₀:=My) (nb:=My.boxes.length) (na:=My.aC.length) (ap _) (ap _) B ao5 (some l) [] true none _ _ _ wy Ey (fun _ h=>by cases h) (.inr bR) (fun _=>bR) cz (by rw[Ie (nb':=nb) (na':=na) x' bR];exact T) cH (.refl _ _ _);refine yc (F:=Fence.wide.inRound l) cT fun e a1 w3 Y=> ?_
    cases e with
    |exit id=>obtain⟨_,_,_,_,⟨he,_⟩,_⟩:=Y;cases he
    |ret=>obtain⟨_,_,_,_,⟨he,_⟩,_⟩:=Y;cases he
    |panic ch=>obtain⟨_,_,_,_,_,_,_,⟨he,_⟩,_⟩:=Y;cases he
    |goto t=>exact Y.elim
    |outgrown=>exact Y.elim
    |normal=>
     obtain⟨X3,⟨ap6,cX⟩,E3,cl,⟨_,bj,cL⟩,bA,anX⟩:=Y;simp only at bj;rw[bj]at bA anX;obtain⟨l3,apY,u1,u2,u3,u4,u5,u6,u7⟩:=Np (st':= .busy) (pd':=none) bA.sim az apf;rw[(anX.bx _ _ az).1,bN]at u1;cases u1;have cv:=run_beginRound (P:=C.P) u4 rfl;refine⟨_,cv,?_⟩;have ai:InS C X3 ⟨wy.heap.size,[],true,none⟩ n ⟨ap6,{My with boxes:=My.boxes.set s.mem.boxes.length (some (.fQ {L with state:= .busy,pending:=none}::cells))}⟩ a1 _ E3:=bA.from u6 u7
     have cV:=jW hm y y' (M₀:=My) (nb:=My.boxes.length) (na:=My.aC.length) (ap _) (ap _) B ao5 (some l) [] true none _ _ _ _ E3 (fun _ h=>by cases h) (.inr bS) (fun _=>bS) cA (by rw[Ie (nb':=nb) (na':=na) y' bS];exact cL) ai (anX.trans u7);refine yc (F:=Fence.wide.inRound l) cV fun e2 a5 w5 NZ=> ?_
     have bs:∀{e:Exit} {e':Ex} (ab:Option Code) (X5:Nat->Prop) (s5:St) (E5:Emb) (st:LoopState),(∀b,X3 b->X5 b)->st=(if ab.isNone then LoopState.ready else .done)->
       (∃G,s5.mem.boxes[s.mem.boxes.length]?=some (some (.fQ {L with state:= .busy,pending:=none}::G))/\s.mem.boxes.length∉s5.mem.fz/\
        K (.d (.bool ab.isNone)) {s5.mem with boxes:=s5.mem.boxes.set s.mem.boxes.length (some (.fQ {L with state:=st,pending:=ab}::G))})->
       InS C X5 ⟨wy.heap.size,[],true,none⟩ n s5 a5 w5 E5->From wy My Ey w5 s5.mem E5->
       ∃v w',(Instr.endRound l ab).run C.P w5= .ok v w'/\Fin C Xy wy My Ey K KP w' (.returned v):=by
      rintro e e' ab X5 s5 E5 st an cQ ⟨G,v1,v2,v3⟩ ax ao;subst cQ;obtain⟨l5,aqR,t1,t2,t3,t4,t5,t6,t7⟩:=Np (st':=if ab.isNone then LoopState.ready else .done) (pd':=ab) ax.sim v1 v2;rw[(ao.bx _ _ az).1,bN]at t1;cases t1;refine⟨_,_,run_endRound ab t4,?_⟩;refine⟨_,_,E5,v3,?_,?_, .d (.bool _)⟩
      ·exact t6.less (X':=Xy) (fun b J=>an b (cl b J)) bh.iF
      ·exact ao.trans t7
     cases e2 with
     |normal=>
      obtain⟨X5,s5,E5,an,⟨G,v1,v2,v3⟩,ax,ao⟩:=NZ;exact bs (e:= .normal) (e':= .normal) none X5 s5 E5 .ready an rfl ⟨G,v1,v2,v3⟩ ax ao
     |ret=>
      obtain⟨X5,s5,E5,an,⟨G,v1,v2,v3⟩,ax,ao⟩:=NZ;exact bs (e:= .normal) (e':= .normal) (some .ret) X5 s5 E5 .done an rfl ⟨G,v1,v2,v3⟩ ax ao
     |exit id=>
      obtain⟨X5,s5,E5,an,⟨G,v1,v2,v3⟩,ax,ao⟩:=NZ;exact bs (e:= .normal) (e':= .normal) (some (.exit id)) X5 s5 E5 .done an rfl ⟨G,v1,v2,v3⟩ ax ao
     |panic ch=>
      obtain⟨X5,v5,d5,M5,E5,an,rfl,h1,h2,h3,h4,⟨ms,hms,_,cK⟩,_⟩:=NZ;have apB:∀b,Xy b->X5 b:=fun b J=>an b (cl b J)
      exact⟨by rw[hms,cK rfl];rfl,v5,d5,M5,E5,rfl,h1,h2.less apB bh.iF,h3,h4.weaken fun b J=>J.imp (apB b) id⟩
     |goto t=>exact NZ.elim
     |outgrown=>exact NZ.elim
   have cP:=h fV;have hA:aQ w2 (away X' (dN s.mem L .ready none cells [] [] []) E1) (dN s.mem L .ready none cells [] [] []) E1 (Fs.toList++ [.func (.yield lp) #[] #[]]++Cs.toList) (fs++ [.mV s.mem.boxes.length]++cs):=
    (((cE.move bB).from abH).append (.cons (.mV Pm cc rfl) .nil)).append ((cD.move bB).from abH)
   have ahY:=cP X' w2 E1 _ ct hA;refine⟨lp,[{target:= .collected D,args:= #[]}],w2,{target:= .fn (.func g) Cs,args:=Fs++ #[.func (.yield lp) #[] #[]]},w2,g,Fs++ #[.func (.yield lp) #[] #[]]++Cs,w2,?_,?_,fun _ _=>trivial,?_,fun h=>by simp[RF,Fence.wide]at h,?_⟩
   ·have:=run_enterLoop_outer (P:=C.P) (w:=w) fn a.tmps ps x y
    rw[ah6,bo,hL,bL,hD];exact this
   ·simp only[resolve,ape]
    simp[go_sem,Deferred.ofValue,Act.eval]
   ·simp[invoke,uU bw]
   have bv:(Fs.toList++ [Value.func (.yield lp) #[] #[]]++Cs.toList).toArray=Fs++ #[Value.func (.yield lp) #[] #[]]++Cs:=by simp
   rw[bv]at ahY;refine QT (Calls.mono ahY fun e w3 a3=> ?_);cases e with
   |outgrown=>exact a3.elim
   |panicked chain=>
    obtain⟨v,d,M3,E3,rfl,hq,anL,afl,cN⟩:=a3;have aD:=b8.trans afl;refine⟨X',v,d,M3,E3,aL,rfl,hq,anL,V.trans aD,cN,?_,hi.fix⟩;obtain⟨ms,hms,⟨a7,a8⟩,_⟩:=hi.defers;obtain⟨bc,an5,hold,_⟩:=aE.defers.from aE.sim (abH.trans afl)
    have a9:bc=ms:=by simpa using an5.symm.trans hms
    subst a9;refine⟨_::bc,by rw[hms];rfl,⟨fun d hd=> ?_,?_⟩,fun e=>(z e).elim⟩
    ·rcases aM.1 hd with rfl|hd
     ·refine⟨D,rfl,by rw[hD];exact V.size,by rw[a0];exact .inr rfl,?_⟩
      have bO:¬owned s.mem E D:=fun ho=>by have:=hi.sim.SN ho;omega
      exact(abH.trans afl).keep D _ bO ao6
     ·exact hold.1 d hd
    ·refine am.2 ⟨fun d hd he=> ?_,a8⟩
     obtain⟨D',g1,g2,g3,g4⟩:=a7 d hd;rw[g1]at he
     injection he with he
     have:=dw g4;omega
   |returned v=>
    obtain⟨p,M3,E3,⟨st,pd,cells3,v1,v2,v3,v4⟩,anL,afl,_⟩:=a3;obtain⟨l3,apY,u1,u2,u3,u4,u5,u6,u7⟩:=Np (st':= .exhausted) (pd':=pd) anL v1 v3;rw[(afl.bx _ _ Pm).1,cc]at u1;cases u1;refine⟨pd,_,run_endLoop u4 v2,?_⟩;have aD:=(afl.trans u7)
    have ai:InS C X' ⟨w₀.heap.size,j,ex,fx⟩ n ⟨s.env,_⟩ {a with defers:=[{target:= .collected D,args:= #[]}]++a.defers} _ E3:=
     {sim:=u6
      env:=fun t=>(aE.env t).from (abH.trans aD)
      size:=hi.size
      fix:=hi.fix
      defers:=by
       obtain⟨ms,hms,⟨a7,a8⟩,_⟩:=hi.defers;obtain⟨bc,an5,hold,_⟩:=aE.defers.from aE.sim (abH.trans aD)
       have a9:bc=ms:=by simpa using an5.symm.trans hms
       subst a9;refine⟨_::bc,by rw[hms];rfl,⟨fun d hd=> ?_,?_⟩,fun e=>(z e).elim⟩
       ·rcases aM.1 hd with rfl|hd
        ·refine⟨D,rfl,by rw[hD];exact V.size,by rw[a0];exact .inr rfl,?_⟩
         have bO:¬owned s.mem E D:=fun ho=>by have:=hi.sim.SN ho;omega
         exact(abH.trans aD).keep D _ bO ao6
        ·exact hold.1 d hd
       ·refine am.2 ⟨fun d hd he=> ?_,a8⟩
        obtain⟨D',g1,g2,g3,g4⟩:=a7 d hd;rw[g1]at he
        injection he with he
        have:=dw g4;omega}
    have abI:=(V.trans b8).trans aD
    match pd,v4,ai,abI with
    |none,v4,ai,abI=>exact⟨X',_,E3,aL,v4,ai,abI⟩
    |some .ret,v4,ai,abI=>exact Iy<|wpIn_ret ⟨X',_,E3,aL,v4,ai,abI⟩
    |some (.exit id),v4,ai,abI=>exact Iy<|wpIn_exit ⟨X',_,E3,aL,v4,ai,abI⟩
def CU (j:C.P.follows .mixedOrders=true){n:Nat}(c:Code)(pc:aA){X:Nat->Prop}{w₀:World}{M₀:Mem}{E₀:Emb}{nb na:Nat}(hb:M₀.boxes.length<=nb)(i:M₀.aC.length<=na)(k:EI pc=true)(ro:Option Nat)(b:List Deferred)(ex:Bool)(fx:Option (Nat×Value))(Q:Ex->St->Prop)(s:St)(a:Act)(w:World)(E:Emb)
  (h1:∀q,fx=some q->GX q.1 c=true)(h2:ro=none\/gU pc=true)(d:ex=true->gU pc=true)(e:chk C.P n c pc=true)(f:pwp C nb na pc Q s)(g:InS C X ⟨w₀.heap.size,b,ex,fx⟩ n s a w E)(h:From w₀ M₀ E₀ w s.mem E):c.wpIn (RF ro) 0 C.P (Post C X n w₀ M₀ E₀ b ex fx Q) a w:=
 amo (jW j c pc hb i (fun _=>True) (.inr k) ro b ex fx Q s a w E h1 h2 d e f g h)
inductive iy where
 |tmp (t:Nat)
 |cell (t:Nat) (agg:Bool) (n:Nat)
def Px (P:Program):List ResultVar->List iy->Bool
 | [],[]=>true
 | .tmp t::l, .tmp b::a=>t==b&&Px P l a
 | .cell t ty::l, .cell b agg n::a=>t==b&&xw P ty agg n&&Px P l a
 | _,_=>false
def oK:List iy->St->(List PV->Prop)->Prop
 | [],_,K=>K []
 | .tmp t::l,s,K=>oK l s fun a=>K (look s.env t::a)
 | .cell t agg n::l,s,K=>bY agg n (look s.env t) s.mem fun v=>oK l s fun a=>K (v::a)
def resV:List PV->PV
 | [x]=>x
 |a=>LZ a
def Wj {P:Program}{t:TypeId}{u:Value}(h:(Instr.loadAt t v).run P w= .ok u w):(do loadVar t (<-asAddr v):Sem Value).run P w= .ok u w:=by
 cases v with
 |pointer a=>
  cases a with
  |none=>simp[Instr.loadAt,Instr.sureAddr]at h
  |some a=>simpa[Instr.loadAt,Instr.sureAddr,asAddr]using h
 | _=>simp[Instr.loadAt,Instr.sureAddr]at h
def alW (tmps:Array Value):ResultVar->Sem Value
 | .tmp t=>pure (tmps.getD t undef)
 | .cell x t=>do loadVar t (<-asAddr (tmps.getD x undef))
def Tv (fn:Func)(tmps:Array Value):results fn tmps=(do let vs<-fn.results.mapM (alW tmps);pure (if h:vs.size=1 then vs[0]else .tuple vs)):=rfl
def OA {lo:Lo}{n:Nat}{s:St}{a:Act}{w:World}{E:Emb}(hi:InS C X lo n s a w E):∀{l:List ResultVar} {d:List iy} {K:List PV->Prop},Px C.P l d=true->oK d s K->
  ∃vs ps,(l.mapM (alW a.tmps):Sem (List Value)).run C.P w= .ok vs w/\K ps/\aQ w (away X s.mem E) s.mem E vs ps
 | [],[],K,_,h=>⟨[],[],by simp,h, .nil⟩
 | .tmp t::l, .tmp k::d,K,b,h=>by
  simp only[Px,H,beq_iff_eq]at b;obtain⟨rfl,b⟩:=b;obtain⟨vs,ps,h1,h2,e⟩:=OA hi b h;refine⟨a.tmps.getD t undef::vs,_,?_,h2, .cons (hi.env t) e⟩;simp only[bB,alW,Sem.run_bind,Sem.run_pure,Result.andThen_ok,h1]
 | .cell x t::l, .cell o agg m::d,K,b,h=>by
  simp only[Px,H,beq_iff_eq]at b;obtain⟨⟨rfl,f⟩,b⟩:=b;simp only[oK]at h;obtain⟨u,pv,g,i,j⟩:=JR hi.sim (hi.env x) f h;have c:=Wj g;obtain⟨vs,ps,h1,h2,e⟩:=OA hi b i;refine⟨u::vs,_,?_,h2, .cons j e⟩;simp only[bB];rw[Sem.run_bind];simp only[Act.eval]at c;rw[show alW a.tmps (.cell x t)=(do loadVar t (<-asAddr (a.tmps.getD x undef))) from rfl,c];simp only[Result.andThen_ok,Sem.run_bind,h1,Sem.run_pure]
def Rep.LZ {w:World}{O:Nat->Prop}{M:Mem}{E:Emb}{vs:List Value}{ps:List PV}(h:aQ w O M E vs ps):Rep w O M E (.tuple vs.toArray) (LZ ps):=by
 unfold Am.LZ
 split
 ·rename_i ds hd;exact .d (.tup (by simpa using h.gV hd))
 ·exact .tup (by simpa using h)
def JM {lo:Lo}{n:Nat}{a:Act}(hi:InS C X lo n s a w E){fn:Func}{e:List iy}{K:List PV->Prop}(d:Px C.P fn.results.toList e=true)(h:oK e s K):
  ∃v ps,(results fn a.tmps).run C.P w= .ok v w/\K ps/\Rep w (away X s.mem E) s.mem E v (resV ps):=by
 obtain⟨c,ps,h1,h2,b⟩:=OA hi d h;refine⟨if h:c.toArray.size=1 then c.toArray[0]else .tuple c.toArray,ps,?_,h2,?_⟩
 ·rw[Tv,Array.mapM_eq_mapM_toList]
  simp only[Sem.run_bind,Sem.run_map,h1,Result.andThen_ok,Sem.run_pure]
 ·have f:=b.length
  match ps,c,b,f with
  | [],[],b,_=>exact Rep.LZ b
  | [p],[v],b,_=>cases b with|cons b _=>exact b
  |p::q::l,v::u::m,b,_=>
   have:¬((v::u::m).toArray.size=1):=by simp
   rw[dif_neg this];exact Rep.LZ b
def sN:Nat->List PV->List (Nat×PV)
 | _,[]=>[]
 |k,v::a=>(k,v)::sN (k+1) a
def Kw:∀{vs:List PV} {k t:Nat},look (sN k vs) t=if t<k then .dead else(vs[t - k]?).getD .dead
 | [],k,t=>by simp[sN,look]
 |v::vs,k,t=>by
  simp only[sN,look]
  by_cases h:k=t
  ·subst h;simp
  ·have:(k==t)=false:=by simp[h]
   simp only[this,cond_false,Kw]
   by_cases h2:t<k
   ·rw[if_pos (by omega),if_pos h2]
   ·rw[if_neg (by omega),if_neg h2]
    have:t - k=(t - (k+1))+1:=by omega
    rw[this];simp
def Dc (P:Program)(f:FuncId)(a:Nat)(pc:aA)(b:List iy):Bool:=
 match P.funcs[f]? with
 |some fn=>match fn.body with
  |some code=>decide (a<=fn.ntmps)&&chk P fn.ntmps code pc&&Px P fn.results.toList b
  |none=>false
 |none=>false
def Qg (b:List iy)(K:PV->Mem->Prop)(KP:DV->Mem->Prop):Ex->St->Prop
 | .normal,s=>oK b s fun a=>K (resV a) s.mem
 | .ret,s=>oK b s fun a=>K (resV a) s.mem
 | .panic d,s=>KP d s.mem
 | .exit _,_=>False
structure Shut (ds:List Deferred) (w w':World):Prop where
 os:w'.os=w.os
 tape:w'.tape=w.tape
 output:w'.output=w.output
 size:w'.heap.size=w.heap.size
 keep:∀b,(∀d∈ds,d.target≠ .collected b)->w'.heap[b]?=w.heap[b]?
def oO {P:Program}{fn:Func}{tmps:Array Value}{R:Ending->World->Prop}{lo:Nat}{f:List Deferred}{u:FrameMode}(l:u≠ .run):∀{ds:List Deferred} {w:World},okM lo X ds w->
  (∀w',Shut ds w w'->LeavesInM Fence.wide 0 P fn tmps R f u w')->LeavesInM Fence.wide 0 P fn tmps R (ds++f) u w
 | [],w,_,h=>h w ⟨rfl,rfl,rfl,rfl,fun _ _=>rfl⟩
 |d::ds,w,hd,h=>by
  obtain⟨h1,h2⟩:=hd;rw[am]at h2;obtain⟨D,i,s,t,n⟩:=h1 d (by simp);refine⟨l, .inl ⟨D,w.putObj D (.deferred none),i,run_takeDeferred n,?_⟩⟩;have j:∀c∈ds,∀e,c.target= .collected e->e≠D:=by
   rintro c a e o rfl;exact h2.1 c a (by rw[i,o])
  refine oO l (lo:=lo) ⟨fun c a=> ?_,h2.2⟩ fun w' g=>h w' ?_
  ·obtain⟨e,m,p,q,r⟩:=h1 c (by simp[a])
   exact⟨e,m,p,q,by rw[World.putObj_heap_other (j c a e m)];exact r⟩
  ·refine⟨g.os,g.tape,g.output,by rw[g.size];simp,fun b k=> ?_⟩
   rw[g.keep b fun c a=>k c (by simp[a]),World.putObj_heap_other];rintro rfl;exact k d (by simp) i
def Il {e:World}{M':Mem}{E':Emb}{ds:List Deferred}(h:Sim C X' w' M' E')(f:∀b,C.low b->b<w.heap.size)(hf:From w M E w' M' E')(hd:okM w.heap.size X' ds w')(hs:Shut ds w' e):
  Sim C X' e M' E'/\From w M E e M' E'/\(∀b o,¬away X' M' E' b->w'.heap[b]?=some o->e.heap[b]?=some o/\¬away X' M' E' b):=by
 have a:∀b,(¬X' b\/b<w.heap.size)->e.heap[b]?=w'.heap[b]?:=by
  intro b c;refine hs.keep b fun d j g=> ?_
  obtain⟨D,k,p,l,_⟩:=hd.1 d j;rw[k]at g
  injection g with g
  subst g
  rcases c with c|c
  ·exact c l
  ·omega
 obtain⟨m,n⟩:=h.shift (X':=X') (w':=e) h.iF (fun b c=>by rw[hs.size];exact h.xlt b c) (fun b c=>a b (.inr (f b c))) fun b o c i=>⟨by rw[a b (.inl c)];exact i,c⟩
 refine⟨m,?_,n⟩;exact
  {os:=hs.os.trans hf.os,tape:=hs.tape.trans hf.tape,output:=hs.output.trans hf.output,size:=by rw[hs.size];exact hf.size,
   keep:=fun b o c i=>by rw[a b (.inr (dw i))];exact hf.keep b o c i,
   own:=hf.own,iE:=hf.iE,bx:=hf.bx,bC:=hf.bC,ar:=hf.ar}
def D6 (hm:C.P.follows .mixedOrders=true){f:FuncId}{args:List PV}{M:Mem}{K:PV->Mem->Prop}{KP:DV->Mem->Prop}{pc:aA}{R:List iy}{j:Nat}(hn:args.length=j)(hc:Dc C.P f j pc R=true)
  (h:pwp C M.boxes.length M.aC.length pc (Qg R K KP) ⟨sN 0 args,M⟩):SC C f args M K KP:=by
 subst hn;intro X w E a A T;unfold Dc at hc
 split at hc
 ·rename_i fn D
  split at hc
  ·rename_i code q
   simp only[H,decide_eq_true_eq]at hc;obtain⟨⟨ab,aqj⟩,G⟩:=hc;have ac:a.length=args.length:=T.length;have hi:InS C X ⟨w.heap.size,[],false,none⟩ fn.ntmps ⟨sN 0 args,M⟩ {tmps:=a.toArray++aw (fn.ntmps - a.toArray.size) undef,defers:=[]} w E:=
    {sim:=A
     size:=by simp;omega
     defers:=EK
     fix:=fun _ h=>by cases h
     env:=fun t=>by
      simp only[Kw,Nat.not_lt_zero,if_false,bS];cases ht:args[t]? with
      |none=>exact .dead
      |some p=>
       obtain⟨v,U,hr⟩:=T.get' t p ht;have N:t<a.length:=(ai.1 U).1;have:({tmps:=a.toArray++aw (fn.ntmps - a.toArray.size) undef,defers:=[]}:Act).eval (.tmp t)=v:=by
        simp only[Act.eval,S];rw[Array.getElem?_append_left (by simpa using N)];simp[U]
       rw[this];exact hr}
   refine(callsIn_wide (n:=0)).1 (QU (F:=Fence.wide) (B:=fun g=>∃fn,C.P.funcs[g]?=some fn) D q trivial ⟨fn,D⟩ ?_);refine yc (F:=RF none) (jW hm code pc (ap _) (ap _) _ (.inl fun _ h=>h) none [] false none _ _ _ w E (fun _ h=>by cases h) (.inl rfl) (fun e=>by cases e) aqj h hi (.refl _ _ _)) fun e y w' x=> ?_
   have m:∀b,C.low b->b<w.heap.size:=fun b J=>A.xlt b (A.iF b J)
   have z:∀(s:St) (X':Nat->Prop) (c:Emb),(∀b,X b->X' b)->oK R s (fun vs=>K (resV vs) s.mem)->InS C X' ⟨w.heap.size,[],false,none⟩ fn.ntmps s y w' c->From w M E w' s.mem c->
     LeavesInM Fence.wide 0 C.P fn y.tmps (fun e w'=>Fin C X w M E K KP w' e) y.defers .returning w':=by
    intro s X' c k h1 h2 o;obtain⟨ms,r,i,_⟩:=h2.defers;rw[r];refine oO (by simp) i fun V u=> ?_
    obtain⟨I,O,Q⟩:=Il h2.sim m o i u;have L:InS C X' ⟨w.heap.size,[],false,none⟩ fn.ntmps s {y with defers:=[]} V c:={sim:=I,env:=fun t=>(h2.env t).move Q,size:=h2.size,defers:=EK,fix:=fun _ h=>by cases h}
    obtain⟨v,ps,W,Y,Z⟩:=JM L G h1;exact⟨v,W,_,s.mem,c,Y,I.less k A.iF,O,Z.less k⟩
   cases e with
   |normal=>
    obtain⟨X',s,c,k,h1,h2,o⟩:=x;exact z s X' c k h1 h2 o
   |ret=>
    obtain⟨X',s,c,k,h1,h2,o⟩:=x;exact z s X' c k h1 h2 o
   |panic ch=>
    obtain⟨X',v,d,M',c,k,rfl,h1,h2,o,h4,h5,_⟩:=x;obtain⟨ms,r,i,_⟩:=h5
    show LeavesInM _ _ _ _ _ _ y.defers _ _
    rw[r];refine oO (by simp) i fun V u=> ?_
    obtain⟨I,O,Q⟩:=Il h2 m o i u;exact⟨v,d,M',c,rfl,h1,I.less k A.iF,O,(h4.mono Q).weaken fun b J=>J.imp (k b) id⟩
   |exit id=>obtain⟨X',s,c,k,h1,_⟩:=x;exact h1.elim
   |goto l=>exact x.elim
   |outgrown=>exact x.elim
  ·cases hc
 ·cases hc
end
def mkRow (M:Mem)(q:Nat×Nat):Arr:=match M.aC[q.1]? with|some (some A)=>⟨A.sz,A.elems.drop q.2,0,A.st⟩| _=>default
def iw (M:Mem)(E:Emb)(q:Nat×Nat):Option (Nat×Nat×Nat):=match M.aC[q.1]?,E.ar[q.1]? with|some (some A),some (some (a,o,e))=>some (a,o+q.2*A.sz,e)| _,_=>none
def BK (M:Mem)(q:Nat×Nat):Bool:=match M.aC[q.1]? with|some (some A)=>decide (q.2<=A.elems.length)| _=>false
def Nb:List (Nat×Nat)->Nat->Nat->Nat->Option Nat
 | [],_,_,_=>none
 |(a,b)::l,i,k,s=>bif a==k&&b==s then some i else Nb l (i+1) k s
def Ti (M:Mem)(L:List (Nat×Nat)):PV->PV
 | .d x=> .d x
 | .tsl k ver skip=>match M.row k ver,Nb L 0 k skip with|some _,some i=> .tsl i 0 0| _,_=> .dead
 | _=> .dead
def ai2 (M:Mem)(L:List (Nat×Nat)):PV->PV
 | .agg cs=> .agg (cs.map (Ti M L))
 |p=>Ti M L p
def ren (M:Mem)(L:List (Nat×Nat)):PV->PV
 | .agg cs=> .agg (cs.map (Ti M L))
 | .tup cs=> .tup (cs.map (ai2 M L))
 |p=>Ti M L p
def xA (M:Mem)(L:List (Nat×Nat)):Prop:=(∀q∈L,BK M q=true)/\(L.map (·.1)).Nodup
def VD:∀{L:List (Nat×Nat)} {i k s j:Nat},Nb L i k s=some j->i<=j/\L[j - i]?=some (k,s)
 | [],i,k,s,j,h=>by simp[Nb]at h
 |(a,b)::l,i,k,s,j,h=>by
  simp only[Nb]at h;cases c:(a==k&&b==s)with
  |true=>
   rw[c]at h;simp only[cond_true,Option.some.injEq]at h;subst h;simp only[H,beq_iff_eq]at c;obtain⟨rfl,rfl⟩:=c;simp
  |false=>
   rw[c]at h;simp only[cond_false]at h;obtain⟨h1,h2⟩:=VD h;refine⟨by omega,?_⟩;rw[show j - i=(j - (i+1))+1 by omega]
   simpa using h2
section
variable {C:Ctx}{X:Nat->Prop}{w:World}{M:Mem}{E:Emb}
variable{q:Nat×Nat}
def air (h:BK M q=true):∃A,M.aC[q.1]?=some (some A)/\q.2<=A.elems.length/\mkRow M q=⟨A.sz,A.elems.drop q.2,0,A.st⟩:=by
 unfold BK at h
 split at h
 ·rename_i A a
  simp only[decide_eq_true_eq]at h;exact⟨A,a,h,by simp[mkRow,a]⟩
 ·cases h
def IY {blk o e:Nat}(h:iw M E q=some (blk,o,e)):∃A o',M.aC[q.1]?=some (some A)/\E.ar[q.1]?=some (some (blk,o',e))/\o=o'+q.2*A.sz:=by
 unfold iw at h
 split at h
 ·rename_i A a o' d b c
  simp only[Option.some.injEq,Prod.mk.injEq]at h;obtain⟨rfl,rfl,rfl⟩:=h;exact⟨A,o',b,c,rfl⟩
 ·cases h
variable{L:List (Nat×Nat)}{i:Nat}
def Qz {B:Arr}(d:xA M L)(h:(rowsOf (L.map (mkRow M))).aC[i]?=some (some B)):∃q A,L[i]?=some q/\M.aC[q.1]?=some (some A)/\q.2<=A.elems.length/\B=⟨A.sz,A.elems.drop q.2,0,A.st⟩:=by
 simp only[rowsOf,bR,ax,ae,bE]at h;obtain⟨q,b,a⟩:=h;simp only[Option.some.injEq]at a;obtain⟨A,h1,h2,c⟩:=air (d.1 q (be b));exact⟨q,A,b,h1,h2,by rw[<-a,c]⟩
def zD (a:L[i]?=some q):(L.map (iw M E))[i]?=some (iw M E q):=by
 simp[a]
def Ol (g:xA M L){b:Nat}(h:owned (rowsOf (L.map (mkRow M))) ⟨[],L.map (iw M E)⟩ b):owned M E b:=by
 rcases h with⟨i,cs,h1,_⟩|⟨i,B,o,e,h1,h2,c⟩
 ·simp[rowsOf]at h1
 ·obtain⟨q,A,f,a,m,rfl⟩:=Qz g h1
  simp only[zD f,Option.some.injEq]at c;obtain⟨l,j,d,k,_⟩:=IY c;rw[a]at d;cases d;exact .inr ⟨q.1,A,j,e,a,h2,k⟩
def Nr (h:Sim C X w M E)(c:xA M L):Sim C X w (rowsOf (L.map (mkRow M))) ⟨[],L.map (iw M E)⟩:=by
 have d:∀b,away X (rowsOf (L.map (mkRow M))) ⟨[],L.map (iw M E)⟩ b->away X M E b:=fun b f=>f.imp id (Ol c)
 exact
  {glob:=h.glob,iF:=h.iF,xlt:=h.xlt
   iE:=rfl
   bC:=by simp[rowsOf]
   box:=fun b cs f=>by simp[rowsOf]at f
   arr:=fun i B n=>by
    obtain⟨q,A,g1,g2,g3,rfl⟩:=Qz c n;obtain⟨v,s2,s3,y⟩:=h.arr q.1 A g2;refine⟨v,fun x t=>s2 x (List.mem_of_mem_drop t),fun s=> ?_,fun a o e k=> ?_⟩
    ·obtain⟨⟨a,o,e⟩,r⟩:=s3 s
     exact⟨(a,o+q.2*A.sz,e),by rw[zD g1];simp[iw,g2,r]⟩
    ·simp only[zD g1,Option.some.injEq]at k
     obtain⟨A',o',q1,q2,rfl⟩:=IY k;rw[g2]at q1;cases q1;obtain⟨r1,vs,T,r2,r3,r4,r5⟩:=y a o' e q2;refine⟨r1,vs,T,r2,?_,r4,?_⟩
     ·simp only[bu]
      have:q.2*A.sz+(A.elems.length - q.2)*A.sz=A.elems.length*A.sz:=by rw[<-b0];congr 1;omega
      omega
     ·simp only[bu]
      exact(row_drop s2 r5).weaken d
   bb:=fun b D cs l a h1=>by simp[rowsOf]at h1
   aa:=fun i F B z a o e o' m h1 h2 g j=>by
    obtain⟨q,A,g1,g2,g3,rfl⟩:=Qz c h1;obtain⟨u,A',g1',g2',g3',rfl⟩:=Qz c h2;simp only[zD g1,Option.some.injEq]at g;simp only[zD g1',Option.some.injEq]at j;obtain⟨_,p1,_,p2,_⟩:=IY g;obtain⟨_,p1',_,p2',_⟩:=IY j;have p:=h.aa q.1 u.1 A A' a p1 e p1' m g2 g2' p2 p2';have hi:i<(L.map (·.1)).length:=by simpa using(ai.1 g1).1
    refine(List.getElem?_inj hi c.2).1 ?_;simp[g1,g1',p]
   ba:=fun b i cs B a o e h1=>by simp[rowsOf]at h1}
def Gy {w₀:World}(hf:From w₀ bG ⟨[],[]⟩ w M E)(c:xA M L):From w₀ bG ⟨[],[]⟩ w (rowsOf (L.map (mkRow M))) ⟨[],L.map (iw M E)⟩:={
 os:=hf.os
 tape:=hf.tape
 output:=hf.output
 size:=hf.size
 keep:=hf.keep
 own:=fun b a=>hf.own b (Ol c a)
 iE:=ap _
 bx:=fun b cs a=>by simp[bG]at a
 bC:=bz _
 ar:=fun k e d=>by simp[bG]at d}
def Tt (h:Sim C X w M E)(D:xA M L){v:Value}{p:PV}(q:Rep w (away X M E) M E v p):
  Rep w (away X (rowsOf (L.map (mkRow M))) ⟨[],L.map (iw M E)⟩) (rowsOf (L.map (mkRow M))) ⟨[],L.map (iw M E)⟩ v (Ti M L p):=by
 have f:∀b,away X (rowsOf (L.map (mkRow M))) ⟨[],L.map (iw M E)⟩ b->away X M E b:=fun b F=>F.imp id (Ol D)
 cases p with
 |d x=>exact .d (q.toD.weaken f)
 |tsl k ver skip=>
  simp only[Ti]
  split
  ·rename_i A i t hi
   obtain⟨_,c⟩:=VD hi;simp only[bS]at c;obtain⟨t1,t2,Q,R,K⟩:=Iu h q t;obtain⟨a,cap,G⟩:=q.kP t;subst G;have g:mkRow M (k,skip)=⟨A.sz,A.elems.drop skip,0,A.st⟩:=by simp[mkRow,t1]
   have m:i<L.length:=(ai.1 c).1;refine .tsl (by simpa[rowsOf]using m) fun B u=> ?_
   have l:B=⟨A.sz,A.elems.drop skip,0,A.st⟩:=by
    simp only[rowsOf,bR,ax,c,Option.map_some,bE,Option.some.injEq]at u;rw[<-u,g]
   subst l;refine⟨ap _,fun _=>⟨_,zD c,bz _,?_⟩⟩
   rcases K with⟨j,o,e,S,T,s,r,H,N,O,P,I⟩|⟨r,H,hd⟩
   ·have n:iw M E (k,skip)=some (j,o+skip*A.sz,e):=by simp[iw,t1,r]
    rw[n];simp only
    rcases I with⟨hh,y,J⟩|⟨y,_,z,hh⟩
    ·cases hh
     refine .inl ⟨cap,by simp,by simpa using y,?_⟩;simp only[bX];rw[Nat.add_assoc,<-b0];exact J
    ·refine .inr ⟨by simp;omega,z,?_⟩
     exact hh
   ·have n:iw M E (k,skip)=none:=by simp[iw,t1,r]
    rw[n]
    simpa using hd.weaken f
  ·exact .dead
 | _=>exact .dead
def Oy {L:List (Nat×Nat)}(h:Sim C X w M E)(a:xA M L):∀{vs:List Value} {ps:List PV},aQ w (away X M E) M E vs ps->
  aQ w (away X (rowsOf (L.map (mkRow M))) ⟨[],L.map (iw M E)⟩) (rowsOf (L.map (mkRow M))) ⟨[],L.map (iw M E)⟩ vs (ps.map (Ti M L))
 | _,_, .nil=> .nil
 | _,_, .cons h1 t=> .cons (Tt h a h1) (Oy h a t)
def ai3 (h:Sim C X w M E)(a:xA M L){v:Value}{p:PV}(b:Rep w (away X M E) M E v p):
  Rep w (away X (rowsOf (L.map (mkRow M))) ⟨[],L.map (iw M E)⟩) (rowsOf (L.map (mkRow M))) ⟨[],L.map (iw M E)⟩ v (ai2 M L p):=by
 cases p with
 |agg cs=>cases b with|agg hh=>exact .agg (Oy h a hh)
 | _=>exact Tt h a b
def VG {L:List (Nat×Nat)}(h:Sim C X w M E)(a:xA M L):∀{vs:List Value} {ps:List PV},aQ w (away X M E) M E vs ps->
  aQ w (away X (rowsOf (L.map (mkRow M))) ⟨[],L.map (iw M E)⟩) (rowsOf (L.map (mkRow M))) ⟨[],L.map (iw M E)⟩ vs (ps.map (ai2 M L))
 | _,_, .nil=> .nil
 | _,_, .cons h1 t=> .cons (ai3 h a h1) (VG h a t)
def alV (h:Sim C X w M E)(a:xA M L){v:Value}{p:PV}(b:Rep w (away X M E) M E v p):
  Rep w (away X (rowsOf (L.map (mkRow M))) ⟨[],L.map (iw M E)⟩) (rowsOf (L.map (mkRow M))) ⟨[],L.map (iw M E)⟩ v (ren M L p):=by
 cases p with
 |agg cs=>cases b with|agg hh=>exact .agg (Oy h a hh)
 |tup cs=>cases b with|tup hh=>exact .tup (VG h a hh)
 | _=>exact Tt h a b
def D8 {w:World}(d:C.G w)(hl:∀b,C.low b->X b)(hx:∀b,X b->b<w.heap.size):Sim C X w bG ⟨[],[]⟩:={
 glob:=d
 iF:=hl
 xlt:=hx
 iE:=rfl
 bC:=rfl
 box:=fun b cs h=>by simp[bG]at h
 arr:=fun k A h=>by simp[bG]at h
 bb:=fun b g cs c a h=>by simp[bG]at h
 aa:=fun k j A f a o e l i h=>by simp[bG]at h
 ba:=fun b k cs A a o e h=>by simp[bG]at h}
def sG:∀b,away X bG ⟨[],[]⟩ b->X b:=by
 rintro b (h|⟨i,cs,h,_⟩|⟨k,A,o,e,h,_⟩)
 ·exact h
 ·simp[bG]at h
 ·simp[bG]at h
def EN {f:FuncId}{ds:List DV}{r:PV}{ass:List Arr}(h:SC C f (ds.map .d) bG (fun p M=>∃L,xA M L/\ren M L p=r/\L.map (mkRow M)=ass) (fun _ _=>False)):Pure C f ds r ass:=by
 intro X w a l m o n;refine(h X w ⟨[],[]⟩ a (D8 l m o) (aQ.ofD (n.weaken sG))).mono fun e w' g=> ?_
 cases e with
 |returned v=>
  obtain⟨p,M',i,⟨L,b,rfl,rfl⟩,h2,j,k⟩:=g;exact⟨v,_,rfl,Nr h2 b,Gy j b,alV h2 b k⟩
 |panicked c=>
  obtain⟨v,d,M',i,_,hh,_⟩:=g;exact hh.elim
 |outgrown=>exact g.elim
def ZP (c:C.P.follows .mixedOrders=true){f:FuncId}{ds:List DV}{r:PV}{ass:List Arr}{pc:aA}{b:List iy}{a:Nat}(e:(ds.map PV.d).length=a)(hc:Dc C.P f a pc b=true)
  (h:pwp C 0 0 pc (Qg b (fun p M=>∃L,xA M L/\ren M L p=r/\L.map (mkRow M)=ass) (fun _ _=>False)) ⟨sN 0 (ds.map .d),bG⟩):Pure C f ds r ass:=
 EN (D6 c e hc h)
def JJ (c:C.P.follows .mixedOrders=true){f:FuncId}{ds:List DV}{x:DV}{pc:aA}{b:List iy}{a:Nat}(e:(ds.map PV.d).length=a)(hc:Dc C.P f a pc b=true)
  (h:pwp C 0 0 pc (Qg b (fun p _=>p= .d x) (fun _ _=>False)) ⟨sN 0 (ds.map .d),bG⟩):Pure C f ds (.d x) []:=by
 refine EN (SC.mono (D6 c e hc h) fun v M' i=>⟨[],⟨fun q g=>(by cases g),List.nodup_nil⟩,?_,rfl⟩);subst i
 rfl
end
end Go.Am
