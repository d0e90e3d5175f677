/-
  Part 3 of a law of desks.
  Conditions: none.
-/
import Derived.Test.YtbefoehadfnkbaaGreatDoorJourneymanPaidM02
import Derived.RangeFuncRecord
import Derived.Sort.LoopGhostIn
set_option linter.all false
open Bool renaming and_eq_true->H,false_eq_true->U,and_eq_true_iff->Z,or_eq_true->aE,or_eq_false_iff->bc
open Array renaming getD_eq_getD_getElem?->S,getElem?_eq_getElem->an,getElem?_toList->aq,replicate->aw,getElem?_setIfInBounds_ne->az,getElem?_eq_some_iff->aL
open List renaming map_cons->W,map_nil->ab,getElem?_eq_some_iff->ai,pairwise_cons->am,getElem?_eq_getElem->ao,replicate->av,getElem?_map->ax,all_eq_true->aD,mem_cons->aR,range'_succ->a6,foldl_cons->a8,mem_of_getElem?->bd,pairwise_append->be,range'->bh,range_eq_range'->bk,map_congr_left->bl,getElem?_take->bo,range->bp,cons_append->bq,length_cons->br,length_drop->bt,length_take->bu,mem_append->bz,mapM_cons->bA,all_cons->bE,map_tail->bL,getD->bN,map_map->bO
open Iff renaming rfl->Y
open Option renaming map_eq_some_iff->ae,isNone_iff_eq_none->aM,getD_some->a7,bind_some->bv
open Nat renaming le_refl->ap,zero_le->bw,sub_zero->bR,zero_add->bS,add_mul->bX
open Function renaming comp->bB
open And renaming right->b0
namespace Go.Am
structure Lo where
 n:Nat
 ds:List Deferred
 ex:Bool
 fx:Option (Nat×Value)
section
variable {C:Ctx}{X:Nat->Prop}{w:World}{M:Mem}{E:Emb}{K:PV->Mem->Prop}{KP:DV->Mem->Prop}{lo:Lo}{ro:Option Nat}
def V5 {ρ:Operand->Value}(g:∀f,ρ (.func f)= .func (.func f) #[] #[])(e:∀v,ρ (.const v)=v){o:Oper}{op:Op}{p:POp}(ho:o.op=op){args:List PV}(c:Sim C X w M E)(b:aP w (away X M E) M E ((opsOf o.op).map ρ) args)
  (d:aO C.P op p=true){base:Nat}(h:au C base p args M K KP):fJ C X w M E K KP ((execOp ρ o).run C.P w):=by
 have a:=d;unfold aO at d
 split at d
 ·exact ZO (.inl ho) c b h
 ·exact ZO (.inr ho) c b h
 ·exact Wu (.inl ho) c b h
 ·exact Wu (.inr ho) c b h
 ·exact ags ho c b h
 ·exact acL ho c a h
 ·exact aiC ho c b h
 ·exact acM ho c b a h
 ·exact agn ho c b a h
 ·exact Wv ho c b d h
 ·exact acQ ho c b d h
 ·exact acX ho c b a h
 ·exact acV ho c b h
 ·exact aiB ho c b a h
 ·exact af9 ho c b a h
 ·exact aga ho c b a h
 ·exact acP ho e c b a h
 ·exact alS ho c b a h
 ·exact agb ho c b a h
 ·exact aiI ho c b a h
 ·exact aiH ho c b a h
 ·exact agx ho c b a h
 ·exact Wx ho c b a h
 ·exact Zd ho c b a h
 ·exact agd ho c b a h
 ·exact agf ho c b a h
 ·exact agh ho c b a h
 ·exact agi ho c b a h
 ·exact aiE ho c b a h
 ·simp only[H,beq_iff_eq]at d
  obtain⟨rfl,d⟩:=d;exact BD ho (g _) b d h
 ·simp only[H,beq_iff_eq]at d
  obtain⟨rfl,d⟩:=d;exact BD ho (g _) b d (abV h)
 ·simp only[H,beq_iff_eq]at d
  obtain⟨rfl,d⟩:=d;exact BD ho (g _) b d (wB h)
 ·simp only[H,beq_iff_eq]at d
  obtain⟨rfl,d⟩:=d;exact BD ho (g _) b d (wB (Ze h))
 ·simp only[H,beq_iff_eq]at d
  obtain⟨rfl,d⟩:=d;exact BD ho (g _) b d (wB (Nz h))
 ·exact acN ho c b h
 ·exact ZL ho c b a h
 ·exact af8 ho c b a h
 ·exact aiG ho c b a h
 ·exact agk ho c b a h
 ·exact agj ho c a h
 ·subst d
  exact Pg ho (.inl ⟨rfl,rfl⟩) c (by simpa[ho,opsOf]using b) h
 ·simp only[Bool.not_eq_true']at d
  subst d;exact Pg ho (.inr ⟨rfl,rfl⟩) c (by simpa[ho,opsOf]using b) h
 ·exact acW ho c b h
 ·exact acU ho c b a h
 ·exact acS ho c b a h
 ·exact aiJ ho c b a h
 ·exact aiA ho c b a h
 ·exact aiL ho c b a h
 ·exact agv ho c b a h
 ·exact agw ho c b a h
 ·exact agc ho c b a h
 ·exact aiD ho c b a h
 ·exact ZM ho e c b a h
 ·exact agt ho c b a h
 ·exact agr ho c b a h
 ·exact aiF ho b a h
 ·exact aiK ho c b a h
 ·exact acR ho c h
 ·exact agq ho c b a h
 ·exact ZN ho e c b a h
 ·exact acO ho c b a h
 ·exact agu ho c b a h
 ·exact agm ho c b a h
 ·exact agp ho c b a h
 ·exact agl ho c b a h
 ·exact acT ho c b a h
 ·cases d
def aaT:Operand->Opd->Bool
 | .tmp m, .t k=>m==k
 | .const v, .c x=>lV x v
 | .func f, .c (.func (.func a) [] [])=>f==a
 | _,_=>false
def Oj:List Operand->List Opd->Bool
 | [],[]=>true
 |x::a,y::b=>aaT x y&&Oj a b
 | _,_=>false
def okM (n:Nat)(X:Nat->Prop)(ds:List Deferred)(w:World):Prop:=
 (∀d∈ds,∃D,d.target= .collected D/\n<=D/\X D/\w.heap[D]?=some (.deferred (some [])))/\ds.Pairwise (fun d a=>d.target≠a.target)
def okD (lo:Lo)(X:Nat->Prop)(ds:List Deferred)(w:World):Prop:=∃ms,ds=ms++lo.ds/\okM lo.n X ms w/\(lo.ex=true->ms=[])
def amW {n:Nat}{X:Nat->Prop}{w:World}:okM n X [] w:=⟨fun _ h=>by simp at h, .nil⟩
variable{ds:List Deferred}{ex:Bool}{fx:Option (Nat×Value)}
def DU {n:Nat}{X:Nat->Prop}{w:World}:okD ⟨n,ds,ex,fx⟩ X ds w:=⟨[],rfl,amW,fun _=>rfl⟩
def Sim.Kw (h:Sim C X w M E){b:Nat}(ho:owned M E b):¬X b:=by
 rcases ho with⟨i,cs,h1,_,h2⟩|⟨k,A,o,e,h1,_,h2⟩
 ·obtain⟨c,a,d,_⟩:=h.box i cs h1
  rw[h2]at a;cases a;exact d
 ·exact((h.arr k A h1).2.2.2 _ _ _ h2).1
variable{w':World}
def okM.keep {n:Nat}(h:okM n X ds w)(hk:∀b o,X b->w.heap[b]?=some o->w'.heap[b]?=some o):okM n X ds w':=
 ⟨fun d hd=>by obtain⟨D,h1,h2,a,c⟩:=h.1 d hd;exact⟨D,h1,h2,a,hk D _ a c⟩,h.2⟩
def okD.keep {lo:Lo}{ds:List Deferred}{w':World}(h:okD lo X ds w)(hk:∀b o,X b->w.heap[b]?=some o->w'.heap[b]?=some o):okD lo X ds w':=by
 obtain⟨ms,h1,h2,a⟩:=h;exact⟨ms,h1,h2.keep hk,a⟩
def okD.from {lo:Lo}{M':Mem}{E':Emb}(h:okD lo X ds w)(a:Sim C X w M E)(hf:From w M E w' M' E'):okD lo X ds w':=
 h.keep fun b o e d=>hf.keep b o (fun c=>a.Kw c e) d
def RF (ro:Option Nat):Fence:={Fence.wide with round:=ro}
variable{P:Program}{f:FuncId}
def Si {ro:Option Nat}{n:Nat}{args:Array Value}{w:World}{R:Ending->World->Prop}(h:Calls P f args w R):CallsIn (RF ro) n P f args w R:=(callsIn_wide (n:=n)).2 h
structure InS (C:Ctx) (X:Nat->Prop) (lo:Lo) (n:Nat) (s:St) (a:Act) (w:World) (E:Emb):Prop where
 sim:Sim C X w s.mem E
 env:∀t,Rep w (away X s.mem E) s.mem E (a.eval (.tmp t)) (look s.env t)
 size:a.tmps.size=n
 defers:okD lo X a.defers w
 fix:∀q,lo.fx=some q->a.eval (.tmp q.1)=q.2
variable{s:St}{a:Act}
def Zp {n:Nat}(h:InS C X lo n s a w E){x:Operand}{y:Opd}(b:aaT x y=true):Rep w (away X s.mem E) s.mem E (a.eval x) (s.val y):=by
 unfold aaT at b
 split at b
 ·simp only[beq_iff_eq]at b;subst b;exact h.env _
 ·exact .d (lH b)
 ·simp only[beq_iff_eq]at b
  subst b;exact .d (.func .nil .nil)
 ·cases b
def acs {n:Nat}{s:St}{a:Act}(h:InS C X lo n s a w E):∀{xs:List Operand} {ys:List Opd},Oj xs ys=true->aP w (away X s.mem E) s.mem E (xs.map a.eval) (ys.map s.val)
 | [],[],_=> .nil
 |x::xs,y::ys,b=>by
  simp only[Oj,H]at b;exact .cons (Zp h b.1) (acs h b.2)
 | [],_::_,b=>by simp[Oj]at b
 | _::_,[],b=>by simp[Oj]at b
def rP {d t:Nat}{v:Value}:(a.put (some d) v).eval (.tmp t)=if t=d/\d<a.tmps.size then v else a.eval (.tmp t):=by
 simp only[Act.put,Act.eval,S,Array.getElem?_setIfInBounds]
 by_cases h:d=t
 ·subst h
  by_cases h2:d<a.tmps.size
  ·simp[h2]
  ·simp[h2]
 ·have:¬t=d:=fun e=>h e.symm
  simp[h,this]
def InS.put {n:Nat}{s:St}{a:Act}{M':Mem}{w':World}{E':Emb}(h:InS C X lo n s a w E)(f:Sim C X w' M' E')(hf:From w s.mem E w' M' E'){dst:Option Nat}(b:∀q,lo.fx=some q->dst≠some q.1)(hd:dst.all (·<n)=true){v:Value}{p:PV}
  (g:dst.isSome=true->Rep w' (away X M' E') M' E' v p):InS C X lo n ⟨put s.env dst p,M'⟩ (a.put dst v) w' E':={
 sim:=f
 env:=fun t=>by
  cases dst with
  |none=>simpa[Am.put,Act.put]using(h.env t).from hf
  |some d=>
   simp only[Option.all_some,decide_eq_true_eq]at hd;rw[rP];simp only[Am.put,look]
   by_cases hdt:t=d
   ·subst hdt
    simp only[beq_self_eq_true,cond_true,true_and,h.size,hd,if_true];exact g rfl
   ·have:(d==t)=false:=by simp;exact fun e=>hdt e.symm
    simp only[this,cond_false,hdt,false_and,if_false];exact(h.env t).from hf
 size:=by cases dst<;>simp[Act.put,h.size]
 defers:=by
  have:(a.put dst v).defers=a.defers:=by cases dst<;>rfl
  rw[this];exact h.defers.from h.sim hf
 fix:=fun q c=>by
  cases dst with
  |none=>exact h.fix q c
  |some d=>
   rw[rP,if_neg fun hh=>b q c (by rw[<-hh.1])];exact h.fix q c}
def InS.later {n:Nat}{s:St}{a:Act}{w':World}(h:InS C X lo n s a w E)(hl:Later w w'):InS C X lo n s a w' E:={
 sim:=h.sim.later hl
 env:=fun t=>(h.env t).from (hl.from s.mem E)
 size:=h.size
 defers:=h.defers.from h.sim (hl.from s.mem E)
 fix:=h.fix}
def Post (C:Ctx)(X:Nat->Prop)(n:Nat)(w₀:World)(M₀:Mem)(E₀:Emb)(c:List Deferred)(ex:Bool)(fx:Option (Nat×Value))(Q:Ex->St->Prop):Exit->Act->World->Prop
 | .normal,a,w=>∃(X':Nat->Prop) (s:St) (E:Emb),(∀b,X b->X' b)/\Q .normal s/\InS C X' ⟨w₀.heap.size,c,ex,fx⟩ n s a w E/\From w₀ M₀ E₀ w s.mem E
 | .exit id,a,w=>∃(X':Nat->Prop) (s:St) (E:Emb),(∀b,X b->X' b)/\Q (.exit id) s/\InS C X' ⟨w₀.heap.size,c,ex,fx⟩ n s a w E/\From w₀ M₀ E₀ w s.mem E
 | .ret,a,w=>∃(X':Nat->Prop) (s:St) (E:Emb),(∀b,X b->X' b)/\Q .ret s/\InS C X' ⟨w₀.heap.size,c,ex,fx⟩ n s a w E/\From w₀ M₀ E₀ w s.mem E
 | .panic chain,a,w=>∃(X':Nat->Prop) (v:Value) (d:DV) (M:Mem) (E:Emb),(∀b,X b->X' b)/\chain=[{v,recovered:=false}]/\Q (.panic d) ⟨[],M⟩/\Sim C X' w M E/\From w₀ M₀ E₀ w M E/\bP w (away X' M E) v d/\okD ⟨w₀.heap.size,c,ex,fx⟩ X' a.defers w/\(∀q,fx=some q->a.eval (.tmp q.1)=q.2)
 | _,_,_=>False
def Post.up {X':Nat->Prop}{n:Nat}{w₀:World}{M₀:Mem}{E₀:Emb}{i:List Deferred}{Q:Ex->St->Prop}(hx:∀b,X b->X' b){e:Exit}{a:Act}(h:Post C X' n w₀ M₀ E₀ i ex fx Q e a w):Post C X n w₀ M₀ E₀ i ex fx Q e a w:=by
 cases e with
 |normal=>obtain⟨f,s,E,h1,h2⟩:=h;exact⟨f,s,E,fun b g=>h1 b (hx b g),h2⟩
 |exit id=>obtain⟨f,s,E,h1,h2⟩:=h;exact⟨f,s,E,fun b g=>h1 b (hx b g),h2⟩
 |ret=>obtain⟨f,s,E,h1,h2⟩:=h;exact⟨f,s,E,fun b g=>h1 b (hx b g),h2⟩
 |panic c=>obtain⟨f,v,d,M,E,h1,h2⟩:=h;exact⟨f,v,d,M,E,fun b g=>h1 b (hx b g),h2⟩
 |goto l=>exact h.elim
 |outgrown=>exact h.elim
def Yw {op:Op}{p:POp}(h:aO P op p=true):∀c,op≠ .defer c:=by
 rintro c rfl;simp[aO]at h
def afr (ops:Array Oper)(g:Option (Nat×Bool))(c:Option (Nat×Bool)):Bool:=
 match g,c with
 |none,none=>true
 |some (j,b),some (t,a)=>b==a&&decide ((ops[j]?).bind (·.dst)=some t)
 | _,_=>false
def aj8 (P:Program)(n:Nat)(ops:Array Oper)(o:Oper)(p:PO):Bool:=
 aO P o.op p.op&&Oj (opsOf o.op) p.args&&decide (o.dst=p.dst)&&p.dst.all (·<n)&&afr ops o.guard p.g
def PO.plain (p:PO):PO:=match p.op with| .EG _ _ f=>{p with op:= .call f,args:=p.args.tail}| .KW f=>{p with op:= .call f}| _=>p
def POp.noK:POp->Bool| .EG _ _ _=>false| .KW _=>false| _=>true
def aj7 (P:Program)(n:Nat)(ops:Array Oper)(o:Oper)(p:PO):Bool:=aj8 P n ops o p.plain&&(decide (p.fl=0)||p.op.noK)
def SC.mono {f:FuncId}{args:List PV}{M:Mem}{K d:PV->Mem->Prop}{KP:DV->Mem->Prop}(h:SC C f args M K KP)(hk:∀v M',K v M'->d v M'):SC C f args M d KP:=by
 intro X w E a j i;refine(h X w E a j i).mono fun e w' b=> ?_
 cases e with
 |returned v=>
  obtain⟨p,M',g,h1,h2⟩:=b;exact⟨p,M',g,hk _ _ h1,h2⟩
 |panicked c=>exact b
 |outgrown=>exact b
variable{agg:Bool}
def amP {n:Nat}{x:PV}{M:Mem}{K:PV->Prop}(h:bZ agg n x M K):∃v,K v:=by
 unfold bZ at h
 split at h
 ·split at h
  ·exact⟨_,h.2⟩
  ·exact h.elim
 ·exact⟨_,h.2⟩
 ·split at h
  ·exact⟨_,h.2⟩
  ·exact h.elim
 ·exact h.elim
variable{base:Nat}
def RZ {n:Nat}{args:List PV}(h:au C base (.EG agg n f) args M K KP):au C base (.call f) args.tail M K KP:=by
 cases args with
 |nil=>simp only[au]at h
 |cons a b=>
  simp only[au]at h;obtain⟨v,h⟩:=amP h;simp only[au,List.tail_cons];exact SC.mono h fun p M' hh=>hh.2
def ahw {p:PO}{K:St->Prop}(h:fB C base p K KP s)(b:p.plain.op=p.op\/xw base p.fl (p.args.tail.map s.val)):fB C base p.plain K KP s:=by
 unfold PO.plain at b⊢
 split
 ·rename_i agg n f a
  have b:=b.resolve_left (by rw[a];simp);unfold fB at h⊢;simp only;cases c:p.g with
  |none=>
   rw[c]at h;simp only[a]at h⊢;refine⟨b,?_⟩;have:=RZ h.2
   rwa [<-bL]at this
  |some q=>
   rw[c]at h;obtain⟨t,e⟩:=q;simp only[a]at h⊢
   split at h
   ·refine⟨fun i=>⟨b,?_⟩,h.2⟩
    have:=RZ (h.1 i).2
    rwa [<-bL]at this
   ·exact h
   ·exact h.elim
 ·rename_i f a
  have d:∀{j:PV->Mem->Prop},au C base (.KW f) (p.args.map s.val) s.mem j KP->au C base (.call f) (p.args.map s.val) s.mem j KP:=fun⟨_,h1,_,k⟩=>SC.mono h1 k
  unfold fB at h⊢;simp only;cases c:p.g with
  |none=>
   rw[c]at h;simp only[a]at h⊢;exact⟨h.1,d h.2⟩
  |some q=>
   rw[c]at h;obtain⟨t,e⟩:=q;simp only[a]at h⊢
   split at h
   ·exact⟨fun i=>⟨(h.1 i).1,d (h.1 i).2⟩,h.2⟩
   ·exact h
   ·exact h.elim
 ·exact h
variable{ops:Array Oper}
def ahr {n:Nat}(ac:∀q,lo.fx=some q->∀o∈ops,o.dst≠some q.1){i:Nat}{o:Oper}{p:PO}(hi:ops[i]?=some o)(Y:aj8 C.P n ops o p=true){s:St}{a:Act}(h:InS C X lo n s a w E){base:Nat}{K:St->Prop}{KP:DV->Mem->Prop}
  (B:fB C base p K KP s){next:Act->World->Prop}{Q:Exit->Act->World->Prop}
  (O:∀s' N w' E',K s'->InS C X lo n s' N w' E'->From w s.mem E w' s'.mem E'->next N w')
  (G:∀d M' N w' E' v,KP d M'->Sim C X w' M' E'->From w s.mem E w' M' E'->bP w' (away X M' E') v d->okD lo X N.defers w'->(∀q,lo.fx=some q->N.eval (.tmp q.1)=q.2)->Q (.panic [{v,recovered:=false}]) N w'):
  wpOpIn (RF ro) 0 C.P ops Q i next a w:=by
 simp only[aj8,H,decide_eq_true_eq]at Y;obtain⟨⟨⟨⟨hk,ha⟩,hd⟩,R⟩,W⟩:=Y;have hA:=acs h ha;have g:∀q,lo.fx=some q->p.dst≠some q.1:=fun q T=>by rw[<-hd];exact ac q T o (Array.mem_of_getElem? hi)
 have D:au C base p.op (p.args.map s.val) s.mem (fun v M=>K ⟨put s.env p.dst v,M⟩) KP->o.wpIn (RF ro) 0 C.P a w next Q:=by
  intro ae;have:=V5 (ρ:=a.eval) (fun f=>rfl) (fun v=>rfl) (o:=o) rfl h.sim hA hk ae;unfold Oper.wpIn;refine⟨fun _ _=>trivial,?_⟩;rw[Oper.semAt_eq _ _ _ (Yw hk)];generalize (execOp a.eval o).run C.P w=r at this;cases r with
  |ok nx w'=>
   cases nx with
   |value v=>
    obtain⟨pv,M',E',h1,h2,V,h4⟩:=this;simp only[Oper.uponIn_value];rw[hd];exact O _ _ _ _ h1 (h.put h2 V g R (fun _=>h4)) V
   |skip=>
    obtain⟨M',E',h1,h2,V⟩:=this;simp only[Oper.uponIn_skip];rw[hd];exact O _ _ _ _ h1 (h.put h2 V g R (fun _=> .dead)) V
   |enter f args=>
    obtain⟨rfl,ps,h1,h2⟩:=this;simp only[Oper.uponIn_enter];have:=h1 X w' E args.toList h.sim h2;refine⟨fun h=>by simp[RF,Fence.wide]at h,CallsIn.mono (Si (ro:=ro) (by simpa using this)) fun e L I=> ?_⟩;cases e with
    |returned v=>
     obtain⟨pv,M',E',m,y,b,z⟩:=I
     show next (a.put o.dst v) L
     rw[hd];exact O _ _ _ _ m (h.put y b g R (fun _=>z)) b
    |panicked chain=>
     obtain⟨v,d,M',E',rfl,m,y,b,z⟩:=I;exact G _ _ _ _ _ _ m y b z (h.defers.from h.sim b) h.fix
    |outgrown=>exact I.elim
   |round l f am an body=>
    obtain⟨rfl,h1⟩:=this;simp only[Oper.uponIn_round];refine⟨fun h=>by simp[RF,Fence.wide]at h,RoundIn.mono (F:=RF ro) (n:=0 - 1) h1 fun e L I=> ?_⟩;cases e with
    |returned v=>
     obtain⟨pv,M',E',m,y,b,z⟩:=I
     show next (a.put o.dst v) L
     rw[hd];exact O _ _ _ _ m (h.put y b g R (fun _=>z)) b
    |panicked chain=>
     obtain⟨v,d,M',E',rfl,m,y,b,z⟩:=I;exact G _ _ _ _ _ _ m y b z (h.defers.from h.sim b) h.fix
    |outgrown=>exact I.elim
   | _=>exact this.elim
  |halt x w'=>
   cases x with
   |panic v=>
    obtain⟨d,M',E',m,y,b,z⟩:=this;exact G _ _ _ _ _ _ m y b z (h.defers.from h.sim b) h.fix
   | _=>exact this.elim
 unfold wpOpIn;simp only[hi];unfold fB at B;unfold afr at W
 split at W
 ·rename_i A J
  simp only[J]at B;have hw:Region.wanted o (yielded ops a.tmps)=true:=by simp[Region.wanted,A]
  simp only[hw,if_true];exact D B.2
 ·rename_i j c t ai A J
  simp only[H,beq_iff_eq,decide_eq_true_eq]at W;obtain⟨rfl,hj⟩:=W;simp only[J]at B
  split at B
  ·rename_i x hx
   obtain⟨r1,r2⟩:=B;have Z:=h.env t;rw[hx]at Z;have k:=Z.toD.nH;have hy:yielded ops a.tmps j=some x:=by
    simp only[yielded,hj,bv];simp only[Act.eval,S]at k;cases T:a.tmps[t]? with
    |none=>rw[T]at k;simp[undef]at k
    |some u=>rw[T]at k;simp at k;simp[k]
   have hw:Region.wanted o (yielded ops a.tmps)=(x==c):=by simp[Region.wanted,A,hy]
   rw[hw]
   by_cases ab:x=c
   ·subst ab
    simp only[beq_self_eq_true,if_true];exact D (r1 rfl).2
   ·have:(x==c)=false:=by simp[ab]
    simp only[this,U,if_false];rw[hd];refine⟨fun _ _=>trivial,?_⟩;exact O _ _ _ _ (r2 (by cases x<;>cases c<;>simp_all)) (h.put h.sim (.refl _ _ _) g R (fun _=> .d (.tup .nil))) (.refl _ _ _)
  ·rename_i hx
   have Z:=h.env t;rw[hx]at Z;have hy:yielded ops a.tmps j=none:=by
    simp only[yielded,hj,bv];have k:=Z.toD;simp only[Act.eval,S]at k;cases T:a.tmps[t]? with
    |none=>rfl
    |some u=>
     rw[T]at k;simp only[a7]at k;cases k
     rfl
   have hw:Region.wanted o (yielded ops a.tmps)=false:=by simp[Region.wanted,A,hy]
   simp only[hw,U,if_false];rw[hd];refine⟨fun _ _=>trivial,?_⟩;exact O _ _ _ _ B (h.put h.sim (.refl _ _ _) g R (fun _=> .d (.tup .nil))) (.refl _ _ _)
  ·exact B.elim
 ·cases W
def abr {n:Nat}(j:∀q,lo.fx=some q->∀o∈ops,o.dst≠some q.1){i:Nat}{o:Oper}{p:PO}(hi:ops[i]?=some o)(b:aj7 C.P n ops o p=true){s:St}{a:Act}(h:InS C X lo n s a w E){base:Nat}{K:St->Prop}{KP:DV->Mem->Prop}
  (m:fB C base p K KP s){next:Act->World->Prop}{Q:Exit->Act->World->Prop}
  (l:∀k e w' E',K k->InS C X lo n k e w' E'->From w s.mem E w' k.mem E'->next e w')
  (g:∀d M' e w' E' v,KP d M'->Sim C X w' M' E'->From w s.mem E w' M' E'->bP w' (away X M' E') v d->okD lo X e.defers w'->(∀q,lo.fx=some q->e.eval (.tmp q.1)=q.2)->Q (.panic [{v,recovered:=false}]) e w'):
  wpOpIn (RF ro) 0 C.P ops Q i next a w:=by
 simp only[aj7,H,aE,decide_eq_true_eq]at b;refine ahr j hi b.1 h (ahw m ?_) l g
 rcases b.2 with h2|h2
 ·exact .inr (by rw[h2];trivial)
 ·refine .inl ?_
  unfold PO.plain
  split
  ·rename_i agg n f c
   rw[c]at h2;cases h2
  ·rename_i f c
   rw[c]at h2;cases h2
  ·rfl
def Xb {n:Nat}{ops:Array Oper}(e:∀q,lo.fx=some q->∀o∈ops,o.dst≠some q.1){base:Nat}{K:St->Prop}{KP:DV->Mem->Prop}{Q:Exit->Act->World->Prop}{w₀:World}{M₀:Mem}{E₀:Emb}
  (u:∀g b w' E',K g->InS C X lo n g b w' E'->From w₀ M₀ E₀ w' g.mem E'->Q .normal b w')
  (c:∀d M' b w' E' v,KP d M'->Sim C X w' M' E'->From w₀ M₀ E₀ w' M' E'->bP w' (away X M' E') v d->okD lo X b.defers w'->(∀q,lo.fx=some q->b.eval (.tmp q.1)=q.2)->Q (.panic [{v,recovered:=false}]) b w'):
  ∀(ps:List PO) (k:Nat),(∀(j:Nat) (p:PO),ps[j]?=some p->∃o,ops[k+j]?=some o/\aj7 C.P n ops o p=true)->∀(s:St) (a:Act) (w:World) (E:Emb),InS C X lo n s a w E->From w₀ M₀ E₀ w s.mem E->
   vU C base ps K KP s->wpOpsIn (RF ro) 0 C.P ops Q (bh k ps.length) a w
 | [],_,_,s,a,w,E,h,i,r=>by
  simp only[List.length_nil,List.range'_zero,wpOpsIn];exact u s a w E r h i
 |p::ps,k,f,s,a,w,E,h,i,r=>by
  simp only[br,a6];rw[wpOpsIn_cons];obtain⟨o,A,B⟩:=f 0 p rfl;refine abr e A B h r (fun g b w' E' t m l=> ?_) (fun d M' b w' E' v h1 h2 x y z=>c d M' b w' E' v h1 h2 (i.trans x) y z);refine Xb e u c ps (k+1) (fun j q D=> ?_) g b w' E' m (i.trans l) t;obtain⟨F,h1,h2⟩:=f (j+1) q (by simpa using D);exact⟨F,by rw[show k+1+j=k+(j+1) by omega];exact h1,h2⟩
def LQ (P:Program)(n:Nat)(ops:Array Oper):List Oper->List PO->Bool
 | [],[]=>true
 |o::os,p::a=>aj7 P n ops o p&&LQ P n ops os a
 | _,_=>false
def Ie {P:Program}{n:Nat}{ops:Array Oper}:∀{os:List Oper} {ps:List PO},LQ P n ops os ps=true->os.length=ps.length/\∀(j:Nat) (p:PO),ps[j]?=some p->∃o,os[j]?=some o/\aj7 P n ops o p=true
 | [],[],_=>⟨rfl,fun j p h=>by simp at h⟩
 |o::os,p::ps,h=>by
  simp only[LQ,H]at h;obtain⟨h1,h2⟩:=Ie h.2;refine⟨by simp[h1],fun j q a=> ?_⟩;cases j with
  |zero=>simp at a;subst a;exact⟨o,rfl,h.1⟩
  |succ j=>simpa using h2 j q (by simpa using a)
 | [],_::_,h=>by simp[LQ]at h
 | _::_,[],h=>by simp[LQ]at h
def Zt {n:Nat}(e:∀q,lo.fx=some q->∀o∈ops,o.dst≠some q.1){ps:List PO}(f:LQ C.P n ops ops.toList ps=true){base:Nat}{K:St->Prop}{KP:DV->Mem->Prop}{Q:Exit->Act->World->Prop}
  {s:St}{a:Act}{w₀:World}{M₀:Mem}{E₀:Emb}(h:InS C X lo n s a w E)(hf:From w₀ M₀ E₀ w s.mem E)(r:vU C base ps K KP s)
  (l:∀g b w' E',K g->InS C X lo n g b w' E'->From w₀ M₀ E₀ w' g.mem E'->Q .normal b w')
  (c:∀d M' b w' E' v,KP d M'->Sim C X w' M' E'->From w₀ M₀ E₀ w' M' E'->bP w' (away X M' E') v d->okD lo X b.defers w'->(∀q,lo.fx=some q->b.eval (.tmp q.1)=q.2)->Q (.panic [{v,recovered:=false}]) b w'):
  wpOpsIn (RF ro) 0 C.P ops Q (bp ops.size) a w:=by
 obtain⟨h1,h2⟩:=Ie f;have:=Xb (ro:=ro) (C:=C) (X:=X) e l c ps 0 (fun j p m=>by
  obtain⟨o,i,k⟩:=h2 j p m;exact⟨o,by simpa using i,k⟩) s a w E h hf r
 rw[bk,show ops.size=ps.length by simpa using h1];exact this
end
section
variable {C:Ctx}{X:Nat->Prop}{w:World}{M:Mem}{E:Emb}{lo:Lo}
def iJ {α:Type}{l:List α}{n i:Nat}{x:α}(h:(l.take n)[i]?=some x):i<n/\l[i]?=some x:=by
 rw[bo]at h
 split at h
 ·rename_i a;exact⟨a,h⟩
 ·cases h
def gZ {α:Type}{l:List α}{n i:Nat}(h:i<n):(l.take n)[i]?=l[i]?:=by
 rw[bo,if_pos h]
def Un {n m:Nat}{b:Nat}(h:owned ⟨M.boxes.take n,M.fz.filter (fun b=>decide (b<n)),M.aB.take m⟩ ⟨E.bx.take n,E.ar.take m⟩ b):owned M E b:=by
 rcases h with⟨i,cs,h1,h2,a⟩|⟨k,A,o,e,h1,h2,a⟩
 ·exact .inl ⟨i,cs,(iJ h1).2,fun c=>h2 (List.mem_filter.2 ⟨c,by simpa using(iJ h1).1⟩),(iJ a).2⟩
 ·exact .inr ⟨k,A,o,e,(iJ h1).2,h2,(iJ a).2⟩
def Hz {n m:Nat}:∀b,away X ⟨M.boxes.take n,M.fz.filter (fun b=>decide (b<n)),M.aB.take m⟩ ⟨E.bx.take n,E.ar.take m⟩ b->away X M E b:=fun _ h=>h.imp id Un
mutual
def Rep.take {n m:Nat}{O O':Nat->Prop}(f:∀b,O' b->O b):∀{v:Value} {p:PV},p.upto n m=true->Rep w O M E v p->Rep w O' ⟨M.boxes.take n,M.fz.filter (fun b=>decide (b<n)),M.aB.take m⟩ ⟨E.bx.take n,E.ar.take m⟩ v p
 | _,_,_, .d h=> .d (h.weaken f)
 | _,_,a, .ptr j i k=>by
  simp only[PV.upto,decide_eq_true_eq]at a;exact .ptr (by simp only[gZ a];exact j) (by simp only[gZ a];exact i) k
 | _,_,a, .mref j i k=>by
  simp only[PV.upto,decide_eq_true_eq]at a;exact .mref (by simp only[gZ a];exact j) (by simp only[gZ a];exact i) k
 | _,_,a, .oP j i k=>by
  simp only[PV.upto,decide_eq_true_eq]at a;exact .oP (by simp only[gZ a];exact j) (by simp only[gZ a];exact i) k
 | _,_,a, .yP j i k=>by
  simp only[PV.upto,decide_eq_true_eq]at a;exact .yP (by simp only[gZ a];exact j) (by simp only[gZ a];exact i) k
 | _,_,a, .jL r h=>by
  simp only[PV.upto,decide_eq_true_eq]at a;refine .jL (by simp;omega) fun A e=> ?_
  simp only[gZ a]at e⊢;obtain⟨l,o⟩:=h A e;refine⟨l,fun s=> ?_⟩;obtain⟨c,t,u,g⟩:=o s;refine⟨c,t,u,?_⟩;cases c with
  |none=>exact bP.weaken f g
  |some q=>exact g
 | _,_,a, .tsl r h=>by
  simp only[PV.upto,decide_eq_true_eq]at a;refine .tsl (by simp;omega) fun A e=> ?_
  simp only[gZ a]at e⊢;obtain⟨l,o⟩:=h A e;refine⟨l,fun s=> ?_⟩;obtain⟨c,t,u,g⟩:=o s;refine⟨c,t,u,?_⟩;cases c with
  |none=>exact bP.weaken f g
  |some q=>exact g
 | _,_,a, .psl r h=>by
  simp only[PV.upto,decide_eq_true_eq]at a;refine .psl (by simp;omega) fun A e=> ?_
  simp only[gZ a]at e⊢;obtain⟨l,o⟩:=h A e;refine⟨l,fun s=> ?_⟩;obtain⟨c,t,u,g⟩:=o s;refine⟨c,t,u,?_⟩;cases c with
  |none=>exact bP.weaken f g
  |some q=>exact g
 | _,_,_, .dead=> .dead
 | _,_,a, .func h1 h2=>by
  simp only[PV.upto,H]at a;exact .func (aP.XF f a.1 h1) (aP.XF f a.2 h2)
 | _,_,a, .agg h=>by
  simp only[PV.upto]at a;exact .agg (aP.XF f a h)
 | _,_,a, .tup h=>by
  simp only[PV.upto]at a;exact .tup (aP.XF f a h)
def aP.XF {n m:Nat}{O O':Nat->Prop}(c:∀b,O' b->O b):∀{v:List Value} {p:List PV},NU n m p=true->aP w O M E v p->aP w O' ⟨M.boxes.take n,M.fz.filter (fun b=>decide (b<n)),M.aB.take m⟩ ⟨E.bx.take n,E.ar.take m⟩ v p
 | _,_,_, .nil=> .nil
 | _,_,a, .cons h t=>by
  simp only[NU,H]at a;exact .cons (Rep.take c a.1 h) (aP.XF c a.2 t)
end
def acr {n m:Nat}:∀{cs:List PV},(∀c∈cs,c.upto n m=true)->NU n m cs=true
 | [],_=>rfl
 |c::cs,h=>by
  simp only[NU,H];exact⟨h c (by simp),acr fun d hd=>h d (by simp[hd])⟩
variable{s:St}{a:Act}
def aeW {k nb na:Nat}{x:St}{w₀:World}{M₀:Mem}{E₀:Emb}(h:InS C X lo k s a w E)(hf:From w₀ M₀ E₀ w s.mem E)(hb:M₀.boxes.length<=nb)(Q:M₀.aB.length<=na)(hw:Weak nb na s x):
  ∃E',InS C X lo k x a w E'/\From w₀ M₀ E₀ w x.mem E':=by
 rcases hw with rfl|hw
 ·exact⟨E,h,hf⟩
 obtain⟨n,m,S,R,i,u,q⟩:=hw;obtain⟨H,I⟩:=x;simp only at i;subst i;refine⟨⟨E.bx.take n,E.ar.take m⟩,?_,?_⟩
 ·exact
   {size:=h.size,defers:=h.defers,fix:=h.fix
    env:=fun t=>by
     rcases u t with hd|⟨r,F⟩
     ·simp only at hd⊢;rw[hd];exact .dead
     ·simp only at r F⊢
      rw[r]at F⊢;exact(h.env t).take Hz F
    sim:=
     {glob:=h.sim.glob,iK:=h.sim.iK,xlt:=h.sim.xlt
      iD:=by simp[h.sim.iD]
      bH:=by simp[h.sim.bH]
      box:=fun b cs f=>by
       obtain⟨h1,h2⟩:=iJ f;obtain⟨d,q1,q2,q3⟩:=h.sim.box b cs h2;refine⟨d,by rw[gZ h1];exact q1,q2,q3.move (fun _ B=>B) (fun b o hb B=>⟨B,fun h=>hb (Hz b h)⟩) fun vs U D G=>G.XF Hz (acr fun c L=> ?_)⟩;exact q (some cs) (bd f) c (by simpa using D c L)
      arr:=fun j A v=>by
       obtain⟨h1,h2⟩:=iJ v;obtain⟨q1,q2,q3,G⟩:=h.sim.arr j A h2;refine⟨q1,q2,fun N=>by rw[gZ h1];exact q3 N,fun d o e r=> ?_⟩;rw[gZ h1]at r;obtain⟨r1,vs,T,r2,r3,r4,r5⟩:=G d o e r;exact⟨r1,vs,T,r2,r3,r4,r5.weaken Hz⟩
      bb:=fun b J cs cs' d h1 h2 l p=>h.sim.bb b J cs cs' d (iJ h1).2 (iJ h2).2 (iJ l).2 (iJ p).2
      aa:=fun j O A y d o e P K h1 h2 l p=>h.sim.aa j O A y d o e P K (iJ h1).2 (iJ h2).2 (iJ l).2 (iJ p).2
      ba:=fun b j cs A d o e h1 h2 l p=>h.sim.ba b j cs A d o e (iJ h1).2 (iJ h2).2 (iJ l).2 (iJ p).2}}
 ·exact
   {os:=hf.os,tape:=hf.tape,output:=hf.output,size:=hf.size,keep:=hf.keep
    own:=fun b z=>hf.own b (Un z)
    iD:=by have:=hf.iD;simp only[bu];omega
    bx:=fun b cs f=>by
     have g:b<n:=Nat.lt_of_lt_of_le (ai.1 f).1 (by omega);obtain⟨h1,cs',h2,l⟩:=hf.bx b cs f;exact⟨by rw[gZ g];exact h1,cs',by rw[gZ g];exact h2,l⟩
    bH:=by have:=hf.bH;simp only[bu];omega
    ar:=fun j y M v=>by
     have g:j<m:=by omega
     rw[gZ g]at v⊢;exact hf.ar j y M v}
def InS.frz {k:Nat}{s:St}{a:Act}{t:Nat}{d:DV}(h:InS C X lo k s a w E)(hd:datum s.mem (look s.env t)=some d):
  InS C X lo k ⟨(t, .d d)::s.env,s.mem.frz [look s.env t]⟩ a w E/\From w s.mem E w (s.mem.frz [look s.env t]) E:=by
 have b:=lX (M:=s.mem) (E:=E) [look s.env t] w;refine⟨{sim:=ng h.sim _,size:=h.size,defers:=h.defers,fix:=h.fix,env:=fun u=> ?_},b⟩;simp only[look]
 by_cases c:t=u
 ·subst c
  simp only[beq_self_eq_true,cond_true];exact .d (kV h.sim (h.env t) hd (by simp))
 ·have:(t==u)=false:=by simp[c]
  simp only[this,cond_false];exact(h.env u).from b
def PE {k:Nat}{K:St->Prop}:∀{ts:List Nat} {s:St} {a:Act},tH ts K s->InS C X lo k s a w E->∃b,K b/\InS C X lo k b a w E/\From w s.mem E w b.mem E
 | [],s,a,h,c=>⟨s,h,c, .refl _ _ _⟩
 |t::ts,s,a,h,c=>by
  simp only[tH]at h
  split at h
  ·rename_i d hd
   obtain⟨h1,h2⟩:=c.frz hd;obtain⟨b,e,f,g⟩:=PE h h1;exact⟨b,e,f,h2.trans g⟩
  ·exact h.elim
def LD {l:List (Nat×PV)}:∀{ks:List Nat} (t:Nat),look (iO l ks) t=look l t\/look (iO l ks) t= .dead
 | [],t=> .inr rfl
 |k::ks,t=>by
  simp only[iO,W,look]
  by_cases h:k=t
  ·subst h;simp
  ·have:(k==t)=false:=by simp[h]
   simp only[this,cond_false];exact LD (ks:=ks) t
def InS.keep {k:Nat}{ks:List Nat}(h:InS C X lo k s a w E):InS C X lo k ⟨iO s.env ks,s.mem⟩ a w E:={
 sim:=h.sim
 size:=h.size
 defers:=h.defers
 fix:=h.fix
 env:=fun t=>by
  rcases LD (l:=s.env) (ks:=ks) t with b|b
  ·simp only[b];exact h.env t
  ·simp only[b];exact .dead}
def InS.reserve {k:Nat}(n:Nat)(h:InS C X lo k s a w E):
  InS C X lo k ⟨s.env,{s.mem with boxes:=s.mem.boxes++av n none}⟩ a w {E with bx:=E.bx++av n 0}/\
  From w s.mem E w {s.mem with boxes:=s.mem.boxes++av n none} {E with bx:=E.bx++av n 0}:=by
 obtain⟨h1,h2⟩:=QF h.sim n;exact⟨{sim:=h1,size:=h.size,defers:=h.defers,fix:=h.fix,env:=fun t=>(h.env t).from h2},h2⟩
end
inductive Kd where
 |p|rb|rr|rg|a (i:Nat)|wb (i:Nat)|wr|wo|w|x
 deriving DecidableEq
def kd (op:POp)(fl:Nat):Kd:=
 match op with
 | .mov| .pick| .build _ _| .bG| .bin _| .Fe _ _| .ZG _| .un _| .conv _| .mkF _ _| .S9 _ _ _| .aas| .VJ _ _ _| .ext _| .Fg| .aaI _| .shf _| .F7 _| .aj _| .TN _ _| .tas _ _| .tJ _| .IZ _ _| .V8 _ _ _| .NJ _ _=> .p
 | .load _ _=>if fl=1 then .p else if fl=2 then .rb else if fl=3 then .rr else .rg
 | .I8 _ _=>if fl=1 then .p else if fl=2 then .rb else .rg
 | .fld _=>if fl=1 then .p else if fl=2 then .p else if fl=3 then .rr else .rg
 | .aZ _=>if fl=1 then .p else .rr
 | .len=>if fl=1 then .p else .rr
 | .gu _ _ _=>if fl=1 then .p else .x
 | .mkI _=>if fl=1 then .p else .x
 | .Eu _ _ _ _=>if fl=1 then .p else .x
 | .alloc i _=> .a i
 | .box i=> .a i
 | .mkMap i=> .a i
 | .jd _=> .rg
 | .Iz _ _ _=> .rg
 | .store _=>match fl with|3=> .wr|2=> .wo|i+4=> .wb i| _=> .w
 | .app _ _=> .wr
 | .ab3 _=> .rr
 | .copy _=> .wr
 | .nN _ _ _=> .wr
 | .ab2 _=> .rr
 | .ZA _=> .wr
 | .rZ _=>if fl=1 then .wr else .x
 | .KU _=> .w
 | _=> .x
def Kd.swap:Kd->Kd->Bool
 | .x,_=>false
 | _, .x=>false
 | .p,_=>true
 | _, .p=>true
 | .rb, .a _=>true
 | .rr, .a _=>true
 | .rg, .a _=>true
 | .a i, .a j=>decide (i≠j)
 | .a i, .wb j=>decide (i≠j)
 | .wb i, .a j=>decide (i≠j)
 | .wb i, .wb j=>decide (i≠j)
 | .a _, .wr=>true
 | .wr, .a _=>true
 | .wb _, .wr=>true
 | .wr, .wb _=>true
 | .rb, .wb _=>true
 | .wb _, .rb=>true
 | .rr, .wb _=>true
 | .wb _, .rr=>true
 | .rb, .wr=>true
 | .wr, .rb=>true
 | .rb, .rb=>true| .rb, .rr=>true| .rb, .rg=>true
 | .rr, .rb=>true| .rr, .rr=>true| .rr, .rg=>true
 | .rg, .rb=>true| .rg, .rr=>true| .rg, .rg=>true
 | .rr, .wo=>true
 | .wo, .rr=>true
 | _,_=>false
def Spec (base:Nat)(k:Kd)(R:Mem->PV->Mem->Prop):Prop:=
 match k with
 | .p=>∃V:PV->Prop,∀M v M',R M v M'↔V v/\M'=M
 | .rb=>∃V:Mem->PV->Prop,(∀M v M',R M v M'↔V M v/\M'=M)/\∀M M' v,(∀b,b<base->M.boxes[b]?=M'.boxes[b]?)->V M v->V M' v
 | .rr=>∃V:Mem->PV->Prop,(∀M v M',R M v M'↔V M v/\M'=M)/\∀M M' v,M.aB=M'.aB->V M v->V M' v
 | .rg=>∃V:Mem->PV->Prop,(∀M v M',R M v M'↔V M v/\M'=M)/\∀M M' v,(∀(b:Nat) (cs:List PV),M.boxes[b]?=some (some cs)->M'.boxes[b]?=some (some cs))->M.aB=M'.aB->V M v->V M' v
 | .a i=>∃(cs:List PV) (h:PV) (c:Prop),∀M v M',R M v M'↔c/\v=h/\M.boxes[base+i]?=some none/\M'={M with boxes:=M.boxes.set (base+i) (some cs)}
 | .wb i=>∃g:List PV->List PV->Prop,∀M v M',R M v M'↔∃cs f,M.boxes[base+i]?=some (some cs)/\base+i∉M.fz/\g cs f/\v= .dead/\M'={M with boxes:=M.boxes.set (base+i) (some f)}
 | .wr=>∃Q:List (Option Arr)->PV->List (Option Arr)->Prop,∀M v M',R M v M'↔∃d,Q M.aB v d/\M'={M with aB:=d}
 | .wo=>∃Q:List (Option (List PV))->List Nat->PV->List (Option (List PV))->Prop,∀M v M',R M v M'↔∃e,Q M.boxes M.fz v e/\M'={M with boxes:=e}
 | .w=>True
 | .x=>False
def Hu (R1 R2:Mem->PV->Mem->Prop):Prop:=∀M d b e c,R1 M d b->R2 b e c->∃a,R2 M e a/\R1 a d c
section
variable {base:Nat}{R1 R2:Mem->PV->Mem->Prop}
def alV {k:Kd}(h1:Spec base .p R1)(_:Spec base k R2):Hu R1 R2:=by
 obtain⟨V,a⟩:=h1;intro M e d f b r1 r2;obtain⟨c,rfl⟩:=(a _ _ _).1 r1;exact⟨b,r2,(a _ _ _).2 ⟨c,rfl⟩⟩
def alW (h2:Spec base .p R2):Hu R1 R2:=by
 obtain⟨V,a⟩:=h2;intro M e c f d r1 r2;obtain⟨b,rfl⟩:=(a _ _ _).1 r2;exact⟨M,(a _ _ _).2 ⟨b,rfl⟩,r1⟩
def Jz (R:Mem->PV->Mem->Prop)(Ag:Mem->Mem->Prop):Prop:=∃V:Mem->PV->Prop,(∀M v M',R M v M'↔V M v/\M'=M)/\∀M M' v,Ag M M'->V M v->V M' v
variable{Ag:Mem->Mem->Prop}
def yt {a:Mem->Mem->Prop}(h1:Jz R1 Ag)(h2:Jz R2 a):Hu R1 R2:=by
 obtain⟨V,c,_⟩:=h1;obtain⟨f,b,_⟩:=h2;intro M i d j e r1 r2;obtain⟨g,rfl⟩:=(c _ _ _).1 r1;obtain⟨h,rfl⟩:=(b _ _ _).1 r2;exact⟨_,r2,r1⟩
def Du (h1:Jz R1 Ag)(h2:∀M v M',R2 M v M'->Ag M M'):Hu R1 R2:=by
 obtain⟨V,a,d⟩:=h1;intro M f e g b r1 r2;obtain⟨c,rfl⟩:=(a _ _ _).1 r1;exact⟨b,r2,(a _ _ _).2 ⟨d _ _ _ (h2 _ _ _ r2) c,rfl⟩⟩
def Rn (h2:Jz R2 Ag)(h1:∀M v M',R1 M v M'->Ag M' M):Hu R1 R2:=by
 obtain⟨V,a,c⟩:=h2;intro M f d g e r1 r2;obtain⟨b,rfl⟩:=(a _ _ _).1 r2;exact⟨M,(a _ _ _).2 ⟨c _ _ _ (h1 _ _ _ r1) b,rfl⟩,r1⟩
def uI (h:Spec base .rb R1):Jz R1 fun M M'=>∀b,b<base->M.boxes[b]?=M'.boxes[b]?:=h
def uJ (h:Spec base .rr R1):Jz R1 fun M M'=>M.aB=M'.aB:=h
def Ez (h:Spec base .rg R1):Jz R1 fun M M'=>(∀(b:Nat) (cs:List PV),M.boxes[b]?=some (some cs)->M'.boxes[b]?=some (some cs))/\M.aB=M'.aB:=by
 obtain⟨V,h1,h2⟩:=h;exact⟨V,h1,fun M M' v h=>h2 M M' v h.1 h.2⟩
variable{i:Nat}
def zB {l:List (Option (List PV))}{j:Nat}{x:Option (List PV)}(h:i≠j):(l.set i x)[j]?=l[j]?:=by rw[List.getElem?_set];simp[h]
def ap8 (h:Spec base (.a i) R1):∀M v M',R1 M v M'->∀b,b<base->M.boxes[b]?=M'.boxes[b]?:=by
 obtain⟨cs,e,c,h⟩:=h;intro M v M' r b d;obtain⟨_,_,_,rfl⟩:=(h _ _ _).1 r;rw[zB (by omega)]
def aiq (h:Spec base (.a i) R1):∀M v M',R1 M v M'->M.aB=M'.aB:=by
 obtain⟨cs,b,c,h⟩:=h;intro M v M' r;obtain⟨_,_,_,rfl⟩:=(h _ _ _).1 r
 rfl
def aok (h:Spec base (.a i) R1):∀M v M',R1 M v M'->∀(b:Nat) (cs:List PV),M.boxes[b]?=some (some cs)->M'.boxes[b]?=some (some cs):=by
 obtain⟨cs,j,c,h⟩:=h;intro M v M' r b f e;obtain⟨_,_,g,rfl⟩:=(h _ _ _).1 r
 by_cases d:base+i=b
 ·subst d;rw[g]at e;cases e
 ·rw[zB d];exact e
def alx (h:Spec base (.wb i) R1):∀M v M',R1 M v M'->∀b,b<base->M.boxes[b]?=M'.boxes[b]?:=by
 obtain⟨g,h⟩:=h;intro M v M' r b c;obtain⟨cs,a,_,_,_,_,rfl⟩:=(h _ _ _).1 r;rw[zB (by omega)]
def afR (h:Spec base (.wb i) R1):∀M v M',R1 M v M'->M.aB=M'.aB:=by
 obtain⟨g,h⟩:=h;intro M v M' r;obtain⟨cs,a,_,_,_,_,rfl⟩:=(h _ _ _).1 r
 rfl
def acz (h:Spec base .wr R1):∀M v M',R1 M v M'->∀b,b<base->M.boxes[b]?=M'.boxes[b]?:=by
 obtain⟨Q,h⟩:=h;intro M v M' r b _;obtain⟨a,_,rfl⟩:=(h _ _ _).1 r
 rfl
def afS (h:Spec base .wo R1):∀M v M',R1 M v M'->M.aB=M'.aB:=by
 obtain⟨Q,h⟩:=h;intro M v M' r;obtain⟨a,_,rfl⟩:=(h _ _ _).1 r
 rfl
def set_comm {l:List (Option (List PV))}{i j:Nat}{x y:Option (List PV)}(h:i≠j):(l.set i x).set j y=(l.set j y).set i x:=List.set_comm _ _ h
def agD {B C:Kd}(h:B.swap C=true)(h1:Spec base B R1)(h2:Spec base C R2):Hu R1 R2:=by
 unfold Kd.swap at h
 split at h
 ·cases h
 ·cases h
 ·exact alV h1 h2
 ·exact alW h2
 ·exact Du (uI h1) (ap8 h2)
 ·exact Du (uJ h1) (aiq h2)
 ·exact Du (Ez h1) fun M v M' r=>⟨aok h2 M v M' r,aiq h2 M v M' r⟩
 ·rename_i i j
  simp only[decide_eq_true_eq]at h;obtain⟨cs,y,c,h1⟩:=h1;obtain⟨ds,E,d,h2⟩:=h2;intro M t o u p r1 r2;obtain⟨a,k,e,rfl⟩:=(h1 _ _ _).1 r1;obtain⟨f,q,n,rfl⟩:=(h2 _ _ _).1 r2;simp only[zB (show base+i≠base+j by omega)]at n;refine⟨_,(h2 _ _ _).2 ⟨f,q,n,rfl⟩,(h1 _ _ _).2 ⟨a,k,?_,?_⟩⟩
  ·simp only[zB (show base+j≠base+i by omega)];exact e
  ·simp only[set_comm (show base+i≠base+j by omega)]
 ·rename_i i j
  simp only[decide_eq_true_eq]at h;obtain⟨cs,y,c,h1⟩:=h1;obtain⟨g,h2⟩:=h2;intro M t o u p r1 r2;obtain⟨a,k,e,rfl⟩:=(h1 _ _ _).1 r1;obtain⟨ds,m,f,q,n,x,rfl⟩:=(h2 _ _ _).1 r2;simp only[zB (show base+i≠base+j by omega)]at f;refine⟨_,(h2 _ _ _).2 ⟨ds,m,f,q,n,x,rfl⟩,(h1 _ _ _).2 ⟨a,k,?_,?_⟩⟩
  ·simp only[zB (show base+j≠base+i by omega)];exact e
  ·simp only[set_comm (show base+i≠base+j by omega)]
 ·rename_i i j
  simp only[decide_eq_true_eq]at h;obtain⟨cs,y,c,h2⟩:=h2;obtain⟨g,h1⟩:=h1;intro M t o u p r1 r2;obtain⟨ds,m,f,q,n,x,rfl⟩:=(h1 _ _ _).1 r1;obtain⟨a,k,e,rfl⟩:=(h2 _ _ _).1 r2;simp only[zB (show base+i≠base+j by omega)]at e;refine⟨_,(h2 _ _ _).2 ⟨a,k,e,rfl⟩,(h1 _ _ _).2 ⟨ds,m,?_,q,n,x,?_⟩⟩
  ·simp only[zB (show base+j≠base+i by omega)];exact f
  ·simp only[set_comm (show base+i≠base+j by omega)]
 ·rename_i i j
  simp only[decide_eq_true_eq]at h;obtain⟨D,h2⟩:=h2;obtain⟨g,h1⟩:=h1;intro M t o u p r1 r2;obtain⟨ds,m,f,q,n,x,rfl⟩:=(h1 _ _ _).1 r1;obtain⟨es,z,a,k,e,w,rfl⟩:=(h2 _ _ _).1 r2;simp only[zB (show base+i≠base+j by omega)]at a;refine⟨_,(h2 _ _ _).2 ⟨es,z,a,k,e,w,rfl⟩,(h1 _ _ _).2 ⟨ds,m,?_,q,n,x,?_⟩⟩
  ·simp only[zB (show base+j≠base+i by omega)];exact f
  ·simp only[set_comm (show base+i≠base+j by omega)]
 ·obtain⟨cs,y,c,h1⟩:=h1
  obtain⟨Q,h2⟩:=h2;intro M t o u p r1 r2;obtain⟨a,k,e,rfl⟩:=(h1 _ _ _).1 r1;obtain⟨l,f,rfl⟩:=(h2 _ _ _).1 r2;exact⟨_,(h2 _ _ _).2 ⟨l,f,rfl⟩,(h1 _ _ _).2 ⟨a,k,e,rfl⟩⟩
 ·obtain⟨cs,y,c,h2⟩:=h2
  obtain⟨Q,h1⟩:=h1;intro M t o u p r1 r2;obtain⟨l,f,rfl⟩:=(h1 _ _ _).1 r1;obtain⟨a,k,e,rfl⟩:=(h2 _ _ _).1 r2;exact⟨_,(h2 _ _ _).2 ⟨a,k,e,rfl⟩,(h1 _ _ _).2 ⟨l,f,rfl⟩⟩
 ·obtain⟨g,h1⟩:=h1
  obtain⟨Q,h2⟩:=h2;intro M t o u p r1 r2;obtain⟨cs,s,a,k,e,w,rfl⟩:=(h1 _ _ _).1 r1;obtain⟨l,f,rfl⟩:=(h2 _ _ _).1 r2;exact⟨_,(h2 _ _ _).2 ⟨l,f,rfl⟩,(h1 _ _ _).2 ⟨cs,s,a,k,e,w,rfl⟩⟩
 ·obtain⟨g,h2⟩:=h2
  obtain⟨Q,h1⟩:=h1;intro M t o u p r1 r2;obtain⟨l,f,rfl⟩:=(h1 _ _ _).1 r1;obtain⟨cs,s,a,k,e,w,rfl⟩:=(h2 _ _ _).1 r2;exact⟨_,(h2 _ _ _).2 ⟨cs,s,a,k,e,w,rfl⟩,(h1 _ _ _).2 ⟨l,f,rfl⟩⟩
 ·exact Du (uI h1) (alx h2)
 ·exact Rn (uI h2) fun M v M' r b A=>(alx h1 M v M' r b A).symm
 ·exact Du (uJ h1) (afR h2)
 ·exact Rn (uJ h2) fun M v M' r=>(afR h1 M v M' r).symm
 ·exact Du (uI h1) (acz h2)
 ·exact Rn (uI h2) fun M v M' r b A=>(acz h1 M v M' r b A).symm
 ·exact yt (uI h1) (uI h2)
 ·exact yt (uI h1) (uJ h2)
 ·exact yt (uI h1) (Ez h2)
 ·exact yt (uJ h1) (uI h2)
 ·exact yt (uJ h1) (uJ h2)
 ·exact yt (uJ h1) (Ez h2)
 ·exact yt (Ez h1) (uI h2)
 ·exact yt (Ez h1) (uJ h2)
 ·exact yt (Ez h1) (Ez h2)
 ·exact Du (uJ h1) (afS h2)
 ·exact Rn (uJ h2) fun M v M' r=>(afS h1 M v M' r).symm
 ·cases h
end
section
variable {C:Ctx}{base:Nat}
def FI (C:Ctx)(base:Nat)(op:POp)(args:List PV)(R:Mem->PV->Mem->Prop):Prop:=∀M K KP,au C base op args M K KP↔∃v M',R M v M'/\K v M'
variable{op:POp}{args:List PV}
def am2 {V:PV->Prop}(h:∀M K KP,au C base op args M K KP↔∃v,V v/\K v M):∃R,Spec base .p R/\FI C base op args R:=by
 refine⟨fun M v M'=>V v/\M'=M,⟨V,fun _ _ _=>Y⟩,fun M K KP=>(h M K KP).trans ?_⟩;constructor
 ·rintro⟨v,h1,h2⟩;exact⟨v,M,⟨h1,rfl⟩,h2⟩
 ·rintro⟨v,M',⟨h1,rfl⟩,h2⟩;exact⟨v,h1,h2⟩
def yx {V:Mem->PV->Prop}(h:∀M K KP,au C base op args M K KP↔∃v,V M v/\K v M):FI C base op args (fun M v M'=>V M v/\M'=M):=by
 intro M K KP;refine(h M K KP).trans ?_;constructor
 ·rintro⟨v,h1,h2⟩;exact⟨v,M,⟨h1,rfl⟩,h2⟩
 ·rintro⟨v,M',⟨h1,rfl⟩,h2⟩;exact⟨v,h1,h2⟩
def acF {op:BinOp}{k:IntKind}{a b:Int}{K:DV->Prop}:mM op k a b K↔∃d,mM op k a b (fun u=>d=u)/\K d:=by
 cases op<;>simp[mM,and_assoc]
def acH {op:BinOp}{a b:ByteArray}{K:DV->Prop}:AO op a b K↔∃d,AO op a b (fun u=>d=u)/\K d:=by
 cases op<;>simp[AO,and_assoc]
variable{x:PV}
def NY {op:BinOp}{y:PV}{K:DV->Prop}:O6 op x y K↔∃d,O6 op x y (fun u=>d=u)/\K d:=by
 unfold O6
 split
 ·rw[acF]
  constructor
  ·rintro⟨h,d,h1,h2⟩;exact⟨d,⟨h,h1⟩,h2⟩
  ·rintro⟨d,⟨h,h1⟩,h2⟩;exact⟨h,d,h1,h2⟩
 ·exact acH
 ·simp
def Vz {op:UnOp}{K:DV->Prop}:acp op x K↔∃d,acp op x (fun u=>d=u)/\K d:=by
 unfold acp
 split<;>simp
def kU:∀{args:List PV},args.all PV.isD=true->∃ds:List DV,args=ds.map .d
 | [],_=>⟨[],rfl⟩
 | .d x::l,h=>by
  simp only[bE,H]at h;obtain⟨ds,rfl⟩:=kU h.2;exact⟨x::ds,rfl⟩
 | .ptr _ _::_,h| .jL _ _ _ _::_,h| .tsl _ _ _::_,h| .func _ _ _::_,h| .agg _::_,h| .tup _::_,h| .dead::_,h=>by simp[PV.isD]at h
def Z4 {M:Mem}:∀{ds:List DV},dF M (ds.map .d)=some ds
 | []=>rfl
 |d::ds=>by simp only[W,dF,datum,Z4]
variable{M:Mem}
def FV {ds:List DV}:M.frz (ds.map .d)=M:=by
 have h1:∀ds:List DV,(ds.map PV.d).flatMap (lG M)=[]:=by
  intro ds;induction ds with
  |nil=>rfl
  |cons d ds a=>simp[lG]
 have h2:∀ds:List DV,(ds.map PV.d).flatMap (lF M)=[]:=by
  intro ds;induction ds with
  |nil=>rfl
  |cons d ds a=>simp[lF]
 simp only[Mem.frz,h1,h2,JM,List.foldl_nil,List.nil_append]
variable{M':Mem}
def Wq {b:Nat}(h:M.boxes[b]?=M'.boxes[b]?):M.box b=M'.box b:=by simp[Mem.box,h]
def rH (h:M.aB=M'.aB)(k ver:Nat):M.row k ver=M'.row k ver:=by simp[Mem.row,h]
variable{agg:Bool}
def jM {n:Nat}{K:PV->Prop}:bZ agg n x M K↔∃v,bZ agg n x M (fun u=>v=u)/\K v:=by
 unfold bZ
 repeat' split
 all_goals simp[and_assoc]
def ahb {n:Nat}{K:PV->Prop}:nZ agg n x M K↔∃v,nZ agg n x M (fun u=>v=u)/\K v:=by
 unfold nZ
 repeat' split
 all_goals simp[and_assoc]
def amj {off:Nat}{K:PV->Prop}:lN off x M K↔∃v,lN off x M (fun u=>v=u)/\K v:=by
 unfold lN
 repeat' split
 all_goals simp[and_assoc]
def ajF {sz:Nat}{i:PV}{K:PV->Prop}:uD sz x i M K↔∃v,uD sz x i M (fun u=>v=u)/\K v:=by
 unfold uD
 repeat' split
 all_goals simp[and_assoc]
def Ym {K:Int->Prop}:rE x M K↔∃v,rE x M (fun u=>v=u)/\K v:=by
 unfold rE
 repeat' split
 all_goals simp
def WW {n:Nat}{k ver i off:Nat}(h:M.aB=M'.aB){K:PV->Prop}(hh:bZ agg n (.jL k ver i off) M K):bZ agg n (.jL k ver i off) M' K:=by
 simp only[bZ,rH h]at hh⊢;exact hh
def ahd {n:Nat}(hb:∀(b:Nat) (cs:List PV),M.boxes[b]?=some (some cs)->M'.boxes[b]?=some (some cs))(h:M.aB=M'.aB){K:PV->Prop}(hh:bZ agg n x M K):bZ agg n x M' K:=by
 cases x with
 |ptr b c=>
  simp only[bZ]at hh⊢
  split at hh
  ·rename_i cs a
   have:M'.box b=some cs:=by simp[Mem.box,hb _ _ (mO a)]
   rw[this];exact hh
  ·exact hh.elim
 |jL k ver i c=>exact WW h hh
 |d y=>cases y<;>exact hh
 | _=>exact hh
def adT {n:Nat}(hb:∀(b:Nat) (cs:List PV),M.boxes[b]?=some (some cs)->M'.boxes[b]?=some (some cs)){K:PV->Prop}(hh:nZ agg n x M K):nZ agg n x M' K:=by
 cases x with
 |ptr b c=>
  simp only[nZ]at hh⊢
  split at hh
  ·rename_i cs a
   have:M'.box b=some cs:=by simp[Mem.box,hb _ _ (mO a)]
   rw[this];exact hh
  ·exact hh.elim
 |d y=>cases y<;>exact hh
 | _=>exact hh
variable{f:Bool}{l:List PV}{K:Option Int->List PV->Prop}
def oK {b:Option Int->List PV->Prop}(hk:∀a l,K a l->b a l)(h:eu f l K):eu f l b:=by
 unfold eu at h⊢
 split at h
 ·exact hk _ _ h
 ·exact hk _ _ h
 ·exact h.elim
def OJ (h:eu f l K):∃a c,eu f l (fun d b=>d=a/\b=c)/\K a c:=by
 unfold eu at h⊢
 split at h
 ·exact⟨_,_,⟨rfl,rfl⟩,h⟩
 ·exact⟨_,_,⟨rfl,rfl⟩,h⟩
 ·exact h.elim
variable{Q:Option Int->Option Int->Option Int->Prop}
def HY {lo hi mx:Bool}(h:eu lo l fun a l=>eu hi l fun b l=>eu mx l fun m l=>l=[]/\Q a b m):
  ∃a b m,(eu lo l fun c l=>eu hi l fun b' l=>eu mx l fun j l=>l=[]/\c=a/\b'=b/\j=m)/\Q a b m:=by
 obtain⟨a,l1,h1,h2⟩:=OJ h;obtain⟨b,l2,d,e⟩:=OJ h2;obtain⟨m,k,f,g,i⟩:=OJ e;refine⟨a,b,m,oK ?_ h1,i⟩;rintro _ _ ⟨rfl,rfl⟩;refine oK ?_ d;rintro _ _ ⟨rfl,rfl⟩;refine oK ?_ f;rintro _ _ ⟨rfl,rfl⟩;exact⟨g,rfl,rfl,rfl⟩
def H6 {lo hi mx:Bool}{a b m:Option Int}(h:eu lo l fun c l=>eu hi l fun b' l=>eu mx l fun e l=>l=[]/\c=a/\b'=b/\e=m)(d:Q a b m):
  eu lo l fun a l=>eu hi l fun b l=>eu mx l fun m l=>l=[]/\Q a b m:=
 oK (fun _ _=>oK fun _ _=>oK fun _ _ hh=>⟨hh.1,by rw[hh.2.1,hh.2.2.1,hh.2.2.2];exact d⟩) h
def Pm (hb:∀(b:Nat) (cs:List PV),M.boxes[b]?=some (some cs)->M'.boxes[b]?=some (some cs))(a:M.aB=M'.aB){p:PV}{d:DV}(h:fA M p=some d):fA M' p=some d:=by
 cases p with
 |tsl k ver skip=>simp only[fA]at h⊢;rw[<-rH a];exact h
 |mref b=>
  simp only[fA]at h⊢
  split at h
  ·rename_i l c
   have:M'.box b=some [.iW l]:=by simp[Mem.box,hb _ _ (mO c)]
   rw[this];exact h
  ·cases h
 | _=>exact h
def KZ {M M':Mem}(hb:∀(b:Nat) (cs:List PV),M.boxes[b]?=some (some cs)->M'.boxes[b]?=some (some cs))(a:M.aB=M'.aB):∀{ps:List PV} {ds:List DV},cu M ps=some ds->cu M' ps=some ds
 | [],_,h=>h
 |p::ps,ds,h=>by
  simp only[cu]at h⊢
  split at h
  ·rename_i x c h1 h2;rw[Pm hb a h1,KZ hb a h2];exact h
  ·cases h
def ac5 (hb:∀(b:Nat) (cs:List PV),M.boxes[b]?=some (some cs)->M'.boxes[b]?=some (some cs))(e:M.aB=M'.aB){p:PV}{d:DV}(h:datum M p=some d):datum M' p=some d:=by
 have a:=fun{j ds}=>KZ (ps:=j) (ds:=ds) hb e
 cases p with
 |tsl k ver skip=>simp only[datum]at h⊢;rw[<-rH e];exact h
 |mref b=>exact Pm (p:= .mref b) hb e h
 |ptr b i=>
  simp only[datum]at h⊢
  split at h
  ·rename_i cs g
   have:M'.box b=some cs:=by simp[Mem.box,hb _ _ (mO g)]
   rw[this];simp only[ae]at h⊢;obtain⟨x,h1,h2⟩:=h;exact⟨x,a h1,h2⟩
  ·cases h
 |func fn f c=>
  simp only[datum]at h⊢
  split at h
  ·rename_i x y h1 h2;rw[a h1,a h2];exact h
  ·cases h
 |agg cs=>simp only[datum,ae]at h⊢;obtain⟨x,h1,h2⟩:=h;exact⟨x,a h1,h2⟩
 |tup cs=>simp only[datum,ae]at h⊢;obtain⟨x,h1,h2⟩:=h;exact⟨x,a h1,h2⟩
 | _=>exact h
def Po {M M':Mem}(hb:∀(b:Nat) (cs:List PV),M.boxes[b]?=some (some cs)->M'.boxes[b]?=some (some cs))(a:M.aB=M'.aB):∀{ps:List PV} {ds:List DV},dF M ps=some ds->dF M' ps=some ds
 | [],_,h=>h
 |p::ps,ds,h=>by
  simp only[dF]at h⊢
  split at h
  ·rename_i x c h1 h2;rw[ac5 hb a h1,Po hb a h2];exact h
  ·cases h
variable{fl:Nat}
def apW (h:kd op fl= .p)(hf:xw base fl args):∃V:PV->Prop,∀M K KP,au C base op args M K KP↔∃v,V v/\K v M:=by
 have one:∀{p:Prop} [Decidable p] {x y z:Kd},(if p then x else y)=z->y≠z->p:=by
  intro p _ x y z h R;by_cases I:p
  ·exact I
  ·rw[if_neg I]at h;exact absurd h R
 cases op with
 |mov=>refine⟨fun v=>au C base .mov args bY (fun u _=>v=u) (fun _ _=>False),fun M K KP=> ?_⟩;simp only[au];split<;>simp
 |pick=>refine⟨fun v=>au C base .pick args bY (fun u _=>v=u) (fun _ _=>False),fun M K KP=> ?_⟩;simp only[au];split<;>simp
 |build zs N=>refine⟨fun v=>au C base (.build zs N) args bY (fun u _=>v=u) (fun _ _=>False),fun M K KP=> ?_⟩;simp only[au];cases lW (zs.map .d) N args<;>simp
 |bG=>refine⟨fun v=>au C base .bG args bY (fun u _=>v=u) (fun _ _=>False),fun M K KP=> ?_⟩;simp only[au];split<;>simp
 |bin op=>
  refine⟨fun v=>au C base (.bin op) args bY (fun u _=>v=u) (fun _ _=>False),fun M K KP=> ?_⟩;simp only[au]
  split
  ·rw[NY]
   constructor
   ·rintro⟨d,h1,h2⟩;exact⟨.d d,NY.2 ⟨d,h1,rfl⟩,h2⟩
   ·rintro⟨v,h1,h2⟩
    obtain⟨d,e,rfl⟩:=NY.1 h1;exact⟨d,e,h2⟩
  ·simp
 |Fe neq B=>
  refine⟨fun v=>au C base (.Fe neq B) args bY (fun u _=>v=u) (fun _ _=>False),fun M K KP=> ?_⟩;simp only[au]
  split
  ·rename_i a b;cases dK B a b<;>simp
  ·simp
 |shf op=>refine⟨fun v=>au C base (.shf op) args bY (fun u _=>v=u) (fun _ _=>False),fun M K KP=> ?_⟩;simp only[au];split<;>(try simp);cases op<;>simp[and_assoc]
 |ZG neq=>refine⟨fun v=>au C base (.ZG neq) args bY (fun u _=>v=u) (fun _ _=>False),fun M K KP=> ?_⟩;simp only[au];split<;>simp
 |un op=>
  refine⟨fun v=>au C base (.un op) args bY (fun u _=>v=u) (fun _ _=>False),fun M K KP=> ?_⟩;simp only[au]
  split
  ·rw[Vz]
   constructor
   ·rintro⟨d,h1,h2⟩;exact⟨.d d,Vz.2 ⟨d,h1,rfl⟩,h2⟩
   ·rintro⟨v,h1,h2⟩
    obtain⟨d,e,rfl⟩:=Vz.1 h1;exact⟨d,e,h2⟩
  ·simp
 |conv k=>refine⟨fun v=>au C base (.conv k) args bY (fun u _=>v=u) (fun _ _=>False),fun M K KP=> ?_⟩;simp only[au];split<;>simp
 |mkF fn S=>refine⟨fun v=>au C base (.mkF fn S) args bY (fun u _=>v=u) (fun _ _=>False),fun M K KP=> ?_⟩;simp only[au];cases iZ args<;>simp
 |S9 agg A n=>refine⟨fun v=>au C base (.S9 agg A n) args bY (fun u _=>v=u) (fun _ _=>False),fun M K KP=> ?_⟩;simp only[au];split<;>simp[and_assoc]
 |aas=>refine⟨fun v=>au C base .aas args bY (fun u _=>v=u) (fun _ _=>False),fun M K KP=> ?_⟩;simp only[au];split<;>simp[and_assoc]
 |VJ agg sz len=>refine⟨fun v=>au C base (.VJ agg sz len) args bY (fun u _=>v=u) (fun _ _=>False),fun M K KP=> ?_⟩;simp only[au];split<;>simp[and_assoc]
 |ext i=>
  refine⟨fun v=>au C base (.ext i) args bY (fun u _=>v=u) (fun _ _=>False),fun M K KP=> ?_⟩;simp only[au]
  split
  ·rename_i H;cases H[i]?<;>simp
  ·rename_i H;cases H[i]?<;>simp
  ·simp
 |Fg=>refine⟨fun v=>au C base .Fg args bY (fun u _=>v=u) (fun _ _=>False),fun M K KP=> ?_⟩;simp only[au];split<;>simp
 |aaI n=>refine⟨fun v=>au C base (.aaI n) args bY (fun u _=>v=u) (fun _ _=>False),fun M K KP=> ?_⟩;simp only[au];simp
 |F7 G=>refine⟨fun v=>au C base (.F7 G) args bY (fun u _=>v=u) (fun _ _=>False),fun M K KP=> ?_⟩;simp only[au];split<;>simp
 |TN B z=>
  refine⟨fun v=>au C base (.TN B z) args bY (fun u _=>v=u) (fun _ _=>False),fun M K KP=> ?_⟩;simp only[au]
  split
  ·rename_i l k
   cases dK B k k with
   |none=>simp
   |some b=>cases b<;>cases DN B l k<;>simp
  ·simp
 |NJ lo E=>
  refine⟨fun v=>au C base (.NJ lo E) args bY (fun u _=>v=u) (fun _ _=>False),fun M K KP=> ?_⟩;simp only[au]
  rcases args with _|⟨x,l⟩
  ·simp[yB]
  ·by_cases J:∃s,x= .d (.str s)
   ·obtain⟨s,rfl⟩:=J
    simp only[yB];constructor
    ·intro hh
     obtain⟨a,b,m,e,g,j,q,r,D⟩:=HY hh;exact⟨_,H6 e ⟨g,j,q,r,rfl⟩,D⟩
    ·rintro⟨v,h1,h2⟩
     obtain⟨a,b,m,e,g,j,q,r,rfl⟩:=HY h1;exact H6 e ⟨g,j,q,r,h2⟩
   ·have:∀Q:DV->Prop,¬yB lo E (x::l) Q:=by
     intro Q hh;unfold yB at hh
     split at hh
     ·rename_i s T P;cases P;exact J ⟨s,rfl⟩
     ·exact hh
    constructor
    ·intro hh;exact(this _ hh).elim
    ·rintro⟨v,hh,_⟩;exact(this _ hh).elim
 |tJ neq=>refine⟨fun v=>au C base (.tJ neq) args bY (fun u _=>v=u) (fun _ _=>False),fun M K KP=> ?_⟩;simp only[au];split<;>simp
 |IZ sz len=>refine⟨fun v=>au C base (.IZ sz len) args bY (fun u _=>v=u) (fun _ _=>False),fun M K KP=> ?_⟩;simp only[au];split<;>simp[and_assoc]
 |V8 agg sz len=>refine⟨fun v=>au C base (.V8 agg sz len) args bY (fun u _=>v=u) (fun _ _=>False),fun M K KP=> ?_⟩;simp only[au];split<;>simp[and_assoc]
 |tas t z=>refine⟨fun v=>au C base (.tas t z) args bY (fun u _=>v=u) (fun _ _=>False),fun M K KP=> ?_⟩;simp only[au];split<;>simp
 |load agg n=>
  simp only[kd]at h;have c:fl=1:=by
   refine one h ?_;split
   ·decide
   ·split<;>decide
  subst c;obtain⟨ds,rfl⟩:=kU (args:=args) hf;refine⟨fun v=>au C base (.load agg n) (ds.map .d) bY (fun u _=>v=u) (fun _ _=>False),fun M K KP=> ?_⟩;simp only[au]
  rcases ds with _|⟨x,_|⟨y,l⟩⟩
  ·simp
  ·simp only[W,ab];cases x<;>simp[bZ,and_assoc]
  ·simp
 |I8 agg n=>
  simp only[kd]at h;have c:fl=1:=by
   refine one h ?_;split<;>decide
  subst c;obtain⟨ds,rfl⟩:=kU (args:=args) hf;refine⟨fun v=>au C base (.I8 agg n) (ds.map .d) bY (fun u _=>v=u) (fun _ _=>False),fun M K KP=> ?_⟩;simp only[au]
  rcases ds with _|⟨x,_|⟨y,l⟩⟩
  ·simp
  ·simp only[W,ab];cases x<;>simp[nZ,and_assoc]
  ·simp
 |fld A=>
  have c:fl=1\/fl=2:=by
   simp only[kd]at h
   by_cases h1:fl=1
   ·exact .inl h1
   ·by_cases h2:fl=2
    ·exact .inr h2
    ·rw[if_neg h1,if_neg h2]at h
     split at h<;>cases h
  have w:(∃ds:List DV,args=ds.map .d)\/(∃b o t,args= .ptr b o::t)\/(∃x t,args= .d x::t):=by
   rcases c with rfl|rfl
   ·exact .inl (kU hf)
   ·simp only[xw]at hf
    split at hf
    ·exact .inr (.inl ⟨_,_,_,rfl⟩)
    ·exact .inr (.inr ⟨_,_,rfl⟩)
    ·exact hf.elim
  refine⟨fun v=>au C base (.fld A) args bY (fun u _=>v=u) (fun _ _=>False),fun M K KP=> ?_⟩
  rcases w with⟨ds,rfl⟩|⟨b,o,t,rfl⟩|⟨x,t,rfl⟩
  ·simp only[au]
   rcases ds with _|⟨x,_|⟨y,l⟩⟩
   ·simp
   ·simp only[W,ab];cases x<;>simp[lN,and_assoc]
   ·simp
  ·simp only[au]
   cases t<;>simp[lN]
  ·simp only[au]
   cases t<;>cases x<;>simp[lN,and_assoc]
 |aZ sz=>
  simp only[kd]at h;have c:fl=1:=one h (by decide);subst c;obtain⟨ds,rfl⟩:=kU (args:=args) hf;refine⟨fun v=>au C base (.aZ sz) (ds.map .d) bY (fun u _=>v=u) (fun _ _=>False),fun M K KP=> ?_⟩;simp only[au]
  rcases ds with _|⟨x,_|⟨y,_|⟨z,l⟩⟩⟩
  ·simp
  ·simp
  ·simp only[W,ab];cases x<;>cases y<;>simp[uD,and_assoc]
  ·simp
 |len=>
  simp only[kd]at h;have c:fl=1:=one h (by decide);subst c;obtain⟨ds,rfl⟩:=kU (args:=args) hf;refine⟨fun v=>au C base .len (ds.map .d) bY (fun u _=>v=u) (fun _ _=>False),fun M K KP=> ?_⟩;simp only[au]
  rcases ds with _|⟨x,_|⟨y,l⟩⟩
  ·simp
  ·simp only[W,ab];cases x<;>simp[rE]
  ·simp
 |gu sz zs L=>
  simp only[kd]at h;have c:fl=1:=one h (by decide);subst c;obtain⟨ds,rfl⟩:=kU (args:=args) hf;refine⟨fun v=>au C base (.gu sz zs L) (ds.map .d) bY (fun u _=>v=u) (fun _ _=>False),fun M K KP=> ?_⟩;simp only[au,Z4,FV];cases wI sz zs L (ds.map DV.strip)<;>simp
 |mkI t=>
  simp only[kd]at h;have c:fl=1:=one h (by decide);subst c;obtain⟨ds,rfl⟩:=kU (args:=args) hf;refine⟨fun v=>au C base (.mkI t) (ds.map .d) bY (fun u _=>v=u) (fun _ _=>False),fun M K KP=> ?_⟩;simp only[au]
  rcases ds with _|⟨x,_|⟨y,l⟩⟩
  ·simp
  ·have:=fun M:Mem=>FV (M:=M) (ds:=[x])
   simp only[W,ab]at this;simp only[W,ab,datum,this];simp
  ·simp
 |Eu sz lo E G=>
  simp only[kd]at h;have c:fl=1:=one h (by decide);subst c;obtain⟨ds,rfl⟩:=kU (args:=args) hf;refine⟨fun v=>au C base (.Eu sz lo E G) (ds.map .d) bY (fun u _=>v=u) (fun _ _=>False),fun M K KP=> ?_⟩;simp only[au]
  rcases ds with _|⟨x,l⟩
  ·simp[yA]
  ·simp only[W]
   cases x with
   |slice ex U=>
    simp only[yA];constructor
    ·intro hh
     obtain⟨a,b,m,e,g,j,q,r,D,O⟩:=HY hh;exact⟨_,H6 e ⟨g,j,q,r,D,rfl⟩,O⟩
    ·rintro⟨v,h1,h2⟩
     obtain⟨a,b,m,e,g,j,q,r,D,rfl⟩:=HY h1;exact H6 e ⟨g,j,q,r,D,h2⟩
   | _=>simp[yA]
 |aj f=>
  refine⟨fun v=>au C base (.aj f) args bY (fun u _=>v=u) (fun _ _=>False),fun M K KP=> ?_⟩;simp only[au,Va];constructor
  ·rintro⟨ds,F,x,h1,h2⟩;exact⟨.d x,⟨ds,F,x,h1,rfl⟩,h2⟩
  ·rintro⟨v,⟨ds,F,x,h1,rfl⟩,h2⟩;exact⟨ds,F,x,h1,h2⟩
 |store n=>
  simp only[kd]at h
  split at h<;>cases h
 |rZ f=>
  simp only[kd]at h
  split at h<;>cases h
 | _=>simp[kd]at h
def RI (h:kd op fl≠ .x)(hf:xw base fl args):∃R,Spec base (kd op fl) R/\FI C base op args R:=by
 by_cases P:kd op fl= .p
 ·rw[P]
  obtain⟨V,hV⟩:=apW (C:=C) P hf;exact am2 hV
 ·cases op with
  |load agg n=>
   have Q:FI C base (.load agg n) args (fun M v M'=>(au C base (.load agg n) args M (fun u _=>v=u) (fun _ _=>False))/\M'=M):=yx fun M K KP=>by
    simp only[au]
    split
    ·exact jM
    ·simp
   refine⟨_,?_,Q⟩;simp only[kd]at P⊢;have h1:fl≠1:=fun e=>P (by simp[e])
   rw[if_neg h1]
   by_cases h2:fl=2
   ·rw[if_pos h2]
    subst h2;refine⟨_,fun _ _ _=>Y,fun M M' v D c=> ?_⟩;simp only[au]at c⊢;simp only[xw]at hf
    split at hf
    ·rename_i b o t
     cases t with
     |nil=>simp only[bZ]at c⊢;rw[<-Wq (D b hf)];exact c
     |cons=>exact c
    ·rename_i x t
     cases t with
     |nil=>cases x<;>exact c
     |cons=>exact c
    ·exact hf.elim
   ·rw[if_neg h2]
    by_cases g:fl=3
    ·rw[if_pos g]
     subst g;refine⟨_,fun _ _ _=>Y,fun M M' v D c=> ?_⟩;simp only[au]at c⊢;simp only[xw]at hf
     split at hf
     ·rename_i t
      cases t with
      |nil=>exact WW D c
      |cons=>exact c
     ·exact hf.elim
    ·rw[if_neg g]
     refine⟨_,fun _ _ _=>Y,fun M M' v hb ha c=> ?_⟩;simp only[au]at c⊢
     split at c
     ·exact ahd hb ha c
     ·exact c.elim
  |I8 agg n=>
   have Q:FI C base (.I8 agg n) args (fun M v M'=>(au C base (.I8 agg n) args M (fun u _=>v=u) (fun _ _=>False))/\M'=M):=yx fun M K KP=>by
    simp only[au]
    split
    ·exact ahb
    ·simp
   refine⟨_,?_,Q⟩;simp only[kd]at P⊢;have h1:fl≠1:=fun e=>P (by simp[e])
   rw[if_neg h1]
   by_cases h2:fl=2
   ·rw[if_pos h2]
    subst h2;refine⟨_,fun _ _ _=>Y,fun M M' v D c=> ?_⟩;simp only[au]at c⊢;simp only[xw]at hf
    split at hf
    ·rename_i b o t
     cases t with
     |nil=>simp only[nZ]at c⊢;rw[<-Wq (D b hf)];exact c
     |cons=>exact c
    ·rename_i x t
     cases t with
     |nil=>cases x<;>exact c
     |cons=>exact c
    ·exact hf.elim
   ·rw[if_neg h2]
    refine⟨_,fun _ _ _=>Y,fun M M' v hb ha c=> ?_⟩;simp only[au]at c⊢
    split at c
    ·exact adT hb c
    ·exact c.elim
  |fld E=>
   have Q:FI C base (.fld E) args (fun M v M'=>(au C base (.fld E) args M (fun u _=>v=u) (fun _ _=>False))/\M'=M):=yx fun M K KP=>by
    simp only[au]
    split
    ·exact amj
    ·simp
   have B:∀{M M':Mem},M.aB=M'.aB->∀{x:PV} {K:PV->Prop},lN E x M K->lN E x M' K:=by
    intro M M' ha x K hh;cases x with
    |jL k ver i o=>simp only[lN,rH ha]at hh⊢;exact hh
    |d x=>cases x<;>exact hh
    | _=>exact hh
   refine⟨_,?_,Q⟩;simp only[kd]at P⊢;have h1:fl≠1:=fun e=>P (by simp[e])
   have h2:fl≠2:=fun e=>P (by simp[e])
   rw[if_neg h1,if_neg h2]
   by_cases g:fl=3
   ·rw[if_pos g]
    refine⟨_,fun _ _ _=>Y,fun M M' v D c=> ?_⟩;simp only[au]at c⊢
    split at c
    ·exact B D c
    ·exact c.elim
   ·rw[if_neg g]
    refine⟨_,fun _ _ _=>Y,fun M M' v hb ha c=> ?_⟩;simp only[au]at c⊢
    split at c
    ·exact B ha c
    ·exact c.elim
  |aZ sz=>
   have Q:FI C base (.aZ sz) args (fun M v M'=>(au C base (.aZ sz) args M (fun u _=>v=u) (fun _ _=>False))/\M'=M):=yx fun M K KP=>by
    simp only[au]
    split
    ·exact ajF
    ·simp
   refine⟨_,?_,Q⟩;simp only[kd]at P⊢;have h1:fl≠1:=fun e=>P (by simp[e])
   rw[if_neg h1];refine⟨_,fun _ _ _=>Y,fun M M' v D c=> ?_⟩;simp only[au]at c⊢
   split at c
   ·simp only[uD,rH D]at c⊢;exact c
   ·exact c.elim
  |len=>
   have Q:FI C base .len args (fun M v M'=>(au C base .len args M (fun u _=>v=u) (fun _ _=>False))/\M'=M):=yx fun M K KP=>by
    simp only[au]
    split
    ·rw[Ym]
     constructor
     ·rintro⟨n,h1,h2⟩;exact⟨_,Ym.2 ⟨n,h1,rfl⟩,h2⟩
     ·rintro⟨v,h1,h2⟩
      obtain⟨n,Z,rfl⟩:=Ym.1 h1;exact⟨n,Z,h2⟩
    ·simp
   refine⟨_,?_,Q⟩;simp only[kd]at P⊢;have h1:fl≠1:=fun e=>P (by simp[e])
   rw[if_neg h1];refine⟨_,fun _ _ _=>Y,fun M M' v D c=> ?_⟩;simp only[au]at c⊢
   split at c
   ·simp only[rE,rH D]at c⊢;exact c
   ·exact c.elim
  |ab3 sz=>
   have Q:FI C base (.ab3 sz) args (fun M v M'=>(au C base (.ab3 sz) args M (fun u _=>v=u) (fun _ _=>False))/\M'=M):=yx fun M K KP=>by
    simp only[au]
    split
    ·rename_i k ver skip kk n
     cases M.row k ver with
     |none=>simp
     |some A=>simp[and_assoc]
    ·simp
   refine⟨_,?_,Q⟩;simp only[kd];refine⟨_,fun _ _ _=>Y,fun M M' v D c=> ?_⟩;simp only[au]at c⊢
   split at c
   ·simp only[rH D]at c⊢;exact c
   ·exact c.elim
  |ab2 sz=>
   have Q:FI C base (.ab2 sz) args (fun M v M'=>(au C base (.ab2 sz) args M (fun u _=>v=u) (fun _ _=>False))/\M'=M):=yx fun M K KP=>by
    simp only[au]
    split
    ·rename_i k ver skip kk n
     cases M.row k ver with
     |none=>simp
     |some A=>simp[and_assoc]
    ·simp
   refine⟨_,?_,Q⟩;simp only[kd];refine⟨_,fun _ _ _=>Y,fun M M' v D c=> ?_⟩;simp only[au]at c⊢
   split at c
   ·simp only[rH D]at c⊢;exact c
   ·exact c.elim
  |KU f=>
   exact⟨fun M p M'=>SC C f args M (fun q N=>q=p/\N=M') (fun _ _=>False),trivial,fun M K KP=>Y⟩
  |jd f=>
   refine⟨_,⟨fun M v=>au C base (.jd f) args M (fun u _=>v=u) (fun _ _=>False),fun _ _ _=>Y,fun M M' v hb ha c=> ?_⟩,yx fun M K KP=> ?_⟩
   ·obtain⟨ds,h0,h1⟩:=c
    exact⟨ds,Po hb ha h0,h1⟩
   ·simp only[au,Ny]
    constructor
    ·rintro⟨ds,h0,x,h1,h2,g⟩;exact⟨.d x,⟨ds,h0,x,h1,h2,rfl⟩,g⟩
    ·rintro⟨v,⟨ds,h0,x,h1,h2,rfl⟩,g⟩;exact⟨ds,h0,x,h1,h2,g⟩
  |Iz ok ks z=>
   refine⟨_,⟨fun M v=>au C base (.Iz ok ks z) args M (fun u _=>v=u) (fun _ _=>False),fun _ _ _=>Y,fun M M' v hb ha c=> ?_⟩,yx fun M K KP=> ?_⟩
   ·simp only[au]at c⊢
    split at c
    ·exact c
    ·rename_i b k
     cases ac:M.box b with
     |none=>simp only[ac]at c
     |some cs=>
      have:M'.box b=some cs:=by simp[Mem.box,hb _ _ (mO ac)]
      simp only[ac]at c;simp only[this];exact c
    ·exact c
   ·simp only[au]
    split
    ·split<;>simp
    ·split
     ·split<;>simp
     ·simp
    ·simp
  |mkMap i=>
   cases args with
   |nil=>
    refine⟨_,⟨[.iW []], .mref (base+i),True,fun _ _ _=>Y⟩,fun M K KP=> ?_⟩;simp only[au];constructor
    ·rintro⟨h1,h2⟩;exact⟨_,_,⟨trivial,rfl,h1,rfl⟩,h2⟩
    ·rintro⟨v,M',⟨_,rfl,h1,rfl⟩,h2⟩;exact⟨h1,h2⟩
   |cons x l=>
    refine⟨_,⟨[], .dead,False,fun _ _ _=>Y⟩,fun M K KP=> ?_⟩;simp[au]
  |alloc i zs=>
   cases args with
   |nil=>
    refine⟨_,⟨zs.map .d, .ptr (base+i) 0,True,fun _ _ _=>Y⟩,fun M K KP=> ?_⟩;simp only[au];constructor
    ·rintro⟨h1,h2⟩;exact⟨_,_,⟨trivial,rfl,h1,rfl⟩,h2⟩
    ·rintro⟨v,M',⟨_,rfl,h1,rfl⟩,h2⟩;exact⟨h1,h2⟩
   |cons x l=>
    refine⟨_,⟨[], .dead,False,fun _ _ _=>Y⟩,fun M K KP=> ?_⟩;simp[au]
  |box i=>
   have ab:(∀M K KP,¬au C base (.box i) args M K KP)->∃R,Spec base (kd (.box i) fl) R/\FI C base (.box i) args R:=fun hn=>
    ⟨_,⟨[], .dead,False,fun _ _ _=>Y⟩,fun M K KP=>⟨fun hh=>(hn _ _ _ hh).elim,by rintro⟨_,_,⟨hh,_⟩,_⟩;exact hh.elim⟩⟩
   rcases args with _|⟨x,_|⟨y,l⟩⟩
   ·exact ab fun M K KP hh=>by simp[au]at hh
   ·refine⟨_,⟨x.cells, .ptr (base+i) 0,x.qZ=false,fun _ _ _=>Y⟩,fun M K KP=> ?_⟩
    simp only[au];constructor
    ·rintro⟨h0,h1,h2⟩;exact⟨_,_,⟨h0,rfl,h1,rfl⟩,h2⟩
    ·rintro⟨v,M',⟨h0,rfl,h1,rfl⟩,h2⟩;exact⟨h0,h1,h2⟩
   ·exact ab fun M K KP hh=>by simp[au]at hh
  |store n=>
   have hx:fl=3\/fl=2\/(∃i,fl=i+4)\/kd (.store n) fl= .w:=by
    simp only[kd]
    split
    ·exact .inl rfl
    ·exact .inr (.inl rfl)
    ·exact .inr (.inr (.inl ⟨_,rfl⟩))
    ·exact .inr (.inr (.inr rfl))
   rcases hx with rfl|rfl|⟨i,rfl⟩|hw
   ·simp only[xw]at hf
    split at hf
    ·rename_i k ver j E t
     refine⟨fun M v M'=>∃a,au C base (.store n) (.jL k ver j E::t) ⟨[],[],M.aB⟩ (fun u m=>v=u/\a=m.aB) (fun _ _=>False)/\M'={M with aB:=a},
      ⟨fun aB v a=>au C base (.store n) (.jL k ver j E::t) ⟨[],[],aB⟩ (fun u m=>v=u/\a=m.aB) (fun _ _=>False),fun _ _ _=>Y⟩,fun M K KP=> ?_⟩
     rcases t with _|⟨y,_|⟨z,l⟩⟩
     ·simp[au]
     ·have B:(⟨[],[],M.aB⟩:Mem).row k ver=M.row k ver:=rfl
      simp only[au,jE,B];cases hr:M.row k ver with
      |none=>simp
      |some A=>
       cases hd:iZ y.cells with
       |none=>simp
       |some ds=>
        simp only;constructor
        ·rintro⟨h1,h2,g,F,G,L⟩;exact⟨_,_,⟨_,⟨h1,h2,g,F,G,rfl,rfl⟩,rfl⟩,L⟩
        ·rintro⟨v,M',⟨a,⟨h1,h2,g,F,G,rfl,rfl⟩,rfl⟩,L⟩
         exact⟨h1,h2,g,F,G,L⟩
     ·simp[au]
    ·exact hf.elim
   ·simp only[xw]at hf
    split at hf
    ·rename_i b E t
     refine⟨fun M v M'=>∃S,au C base (.store n) (.ptr b E::t) ⟨M.boxes,M.fz,[]⟩ (fun u m=>v=u/\S=m.boxes) (fun _ _=>False)/\M'={M with boxes:=S},
      ⟨fun bs fz v S=>au C base (.store n) (.ptr b E::t) ⟨bs,fz,[]⟩ (fun u m=>v=u/\S=m.boxes) (fun _ _=>False),fun _ _ _=>Y⟩,fun M K KP=> ?_⟩
     rcases t with _|⟨y,_|⟨z,l⟩⟩
     ·simp[au]
     ·have ai:(⟨M.boxes,M.fz,[]⟩:Mem).box b=M.box b:=rfl
      simp only[au,jE,ai];cases hb:M.box b with
      |none=>simp
      |some cs=>
       simp only;constructor
       ·rintro⟨h1,h2,g,F,G⟩;exact⟨_,_,⟨_,⟨h1,h2,g,F,rfl,rfl⟩,rfl⟩,G⟩
       ·rintro⟨v,M',⟨S,⟨h1,h2,g,F,rfl,rfl⟩,rfl⟩,G⟩
        exact⟨h1,h2,g,F,G⟩
     ·simp[au]
    ·rename_i x t
     refine⟨fun M v M'=>False/\M'=M/\v=v,⟨fun _ _ _ _=>False,fun _ _ _=>⟨fun hh=>hh.1.elim,fun⟨_,hh,_⟩=>hh.elim⟩⟩,fun M K KP=> ?_⟩
     rcases t with _|⟨y,_|⟨z,l⟩⟩<;>simp[au,jE]
    ·exact hf.elim
   ·simp only[xw]at hf
    split at hf
    ·rename_i b E t
     subst hf;refine⟨_,⟨fun cs ae=>∃y,t=[y]/\y.cells.length=n/\y.cells.all PV.one=true/\E+n<=cs.length/\ae=splice cs E y.cells,fun _ _ _=>Y⟩,fun M K KP=> ?_⟩
     rcases t with _|⟨y,_|⟨z,l⟩⟩
     ·simp[au]
     ·simp only[au,jE]
      constructor
      ·intro hh
       split at hh
       ·rename_i cs aq
        obtain⟨h1,h2,g,F,G⟩:=hh;exact⟨_,_,⟨cs,_,mO aq,h1,⟨y,rfl,h2,g,F,rfl⟩,rfl,rfl⟩,G⟩
       ·exact hh.elim
      ·rintro⟨v,M',⟨cs,ae,h1,h2,⟨y',hy,g,F,G,rfl⟩,rfl,rfl⟩,L⟩
       simp only[List.cons.injEq,and_true]at hy;subst hy;have:M.box (base+i)=some cs:=by simp[Mem.box,h1]
       rw[this];exact⟨h2,g,F,G,L⟩
     ·simp[au]
    ·exact hf.elim
   ·rw[hw]
    refine⟨fun M v M'=>au C base (.store n) args M (fun u m=>v=u/\M'=m) (fun _ _=>False),trivial,fun M K KP=> ?_⟩;simp only[au]
    rcases args with _|⟨x,_|⟨y,_|⟨z,l⟩⟩⟩
    ·simp
    ·simp
    ·simp only[jE]
     cases x with
     |ptr b E=>cases h1:M.box b<;>simp[h1,and_assoc]
     |jL k ver i E=>cases h1:M.row k ver<;>cases h2:iZ y.cells<;>simp[h1,h2,and_assoc]
     | _=>simp
    ·simp
  |copy sz=>
   refine⟨fun M v M'=>∃a,au C base (.copy sz) args ⟨[],[],M.aB⟩ (fun u m=>v=u/\a=m.aB) (fun _ _=>False)/\M'={M with aB:=a},
    ⟨fun aB v a=>au C base (.copy sz) args ⟨[],[],aB⟩ (fun u m=>v=u/\a=m.aB) (fun _ _=>False),fun _ _ _=>Y⟩,fun M K KP=> ?_⟩
   simp only[au]
   split
   ·rename_i k ver skip x
    have B:∀k ver,(⟨[],[],M.aB⟩:Mem).row k ver=M.row k ver:=fun _ _=>rfl
    have ao:Vk x ⟨[],[],M.aB⟩=Vk x M:=by cases x with
     |d x=>cases x<;>rfl
     | _=>rfl
    simp only[B,ao];cases M.row k ver with
    |none=>simp
    |some A=>
     cases Vk x M with
     |none=>simp
     |some ys=>
      simp only;constructor
      ·rintro⟨h1,h2,g,O⟩;exact⟨_,_,⟨_,⟨h1,h2,g,rfl,rfl⟩,rfl⟩,O⟩
      ·rintro⟨v,M',⟨a,⟨h1,h2,g,rfl,rfl⟩,rfl⟩,O⟩;exact⟨h1,h2,g,O⟩
   ·simp
  |nN sz zs is=>
   refine⟨fun M v M'=>∃a,(∃ds X,iZ args=some ds/\wI sz zs is (ds.map DV.strip)=some X/\0<sz/\(∀x∈X,x.fits sz=true)/\v= .tsl M.aB.length 0 0/\a=M.aB++ [some ⟨sz,X,0,1⟩])/\M'={M with aB:=a},
    ⟨fun aB v a=>∃ds X,iZ args=some ds/\wI sz zs is (ds.map DV.strip)=some X/\0<sz/\(∀x∈X,x.fits sz=true)/\v= .tsl aB.length 0 0/\a=aB++ [some ⟨sz,X,0,1⟩],fun _ _ _=>Y⟩,fun M K KP=> ?_⟩
   simp only[au];constructor
   ·intro h
    split at h
    ·rename_i ds aw
     split at h
     ·rename_i X aD
      exact⟨_,_,⟨_,⟨ds,X,aw,aD,h.1,h.2.1,rfl,rfl⟩,rfl⟩,h.2.2⟩
     ·exact h.elim
    ·exact h.elim
   ·rintro⟨v,M',⟨a,⟨ds,X,h1,h2,g,F,rfl,rfl⟩,rfl⟩,G⟩
    simp only[h1,h2];exact⟨g,F,G⟩
  |app sz ap=>
   refine⟨fun M v M'=>∃a,au C base (.app sz ap) args ⟨[],[],M.aB⟩ (fun u m=>v=u/\a=m.aB) (fun _ _=>False)/\M'={M with aB:=a},
    ⟨fun aB v a=>au C base (.app sz ap) args ⟨[],[],aB⟩ (fun u m=>v=u/\a=m.aB) (fun _ _=>False),fun _ _ _=>Y⟩,fun M K KP=> ?_⟩
   simp only[au]
   rcases args with _|⟨s,_|⟨x,_|⟨z,l⟩⟩⟩
   ·simp
   ·simp
   ·have B:∀k ver,(⟨[],[],M.aB⟩:Mem).row k ver=M.row k ver:=fun _ _=>rfl
    have T:zL sz x ⟨[],[],M.aB⟩=zL sz x M:=by cases x with
     |d x=>cases x<;>rfl
     | _=>rfl
    simp only[lg,T];cases zL sz x M with
    |none=>simp
    |some ys=>
     simp only
     split
     ·constructor
      ·rintro⟨h1,h2,g,F,G,L,O⟩;exact⟨_,_,⟨_,⟨h1,h2,g,F,G,L,rfl,rfl⟩,rfl⟩,O⟩
      ·rintro⟨v,M',⟨a,⟨h1,h2,g,F,G,L,rfl,rfl⟩,rfl⟩,O⟩;exact⟨h1,h2,g,F,G,L,O⟩
     ·rename_i k ver skip
      simp only[B];cases M.row k ver with
      |none=>simp
      |some A=>
       simp only;constructor
       ·rintro⟨h1,h2,g,F,G,L,O⟩;exact⟨_,_,⟨_,⟨h1,h2,g,F,G,L,rfl,rfl⟩,rfl⟩,O⟩
       ·rintro⟨v,M',⟨a,⟨h1,h2,g,F,G,L,rfl,rfl⟩,rfl⟩,O⟩;exact⟨h1,h2,g,F,G,L,O⟩
     ·simp
   ·simp
  |ZA sz=>
   have az:∀(M:Mem) (J:PV->Mem->Prop) (KP:DV->Mem->Prop),au C base (.app sz false) args M J KP↔∃k ver a,(au C base (.app sz false) args ⟨[],[],M.aB⟩ (fun u m=> .tsl k ver 0=u/\a=m.aB) (fun _ _=>False))/\J (.tsl k ver 0) {M with aB:=a}:=by
    intro M J KP;simp only[au]
    rcases args with _|⟨s,_|⟨x,_|⟨z,l⟩⟩⟩
    ·simp
    ·simp
    ·have B:∀k ver,(⟨[],[],M.aB⟩:Mem).row k ver=M.row k ver:=fun _ _=>rfl
     have T:zL sz x ⟨[],[],M.aB⟩=zL sz x M:=by cases x with
      |d x=>cases x<;>rfl
      | _=>rfl
     simp only[lg,T];cases zL sz x M with
     |none=>simp
     |some ys=>
      simp only
      split
      ·constructor
       ·rintro⟨h1,h2,g,F,G,L,O⟩;exact⟨_,_,_,⟨h1,h2,g,F,G,L,rfl,rfl⟩,O⟩
       ·rintro⟨k,ver,a,⟨h1,h2,g,F,G,L,h8,rfl⟩,O⟩;cases h8;exact⟨h1,h2,g,F,G,L,O⟩
      ·rename_i k ver skip
       simp only[B];cases M.row k ver with
       |none=>simp
       |some A=>
        simp only;constructor
        ·rintro⟨h1,h2,g,F,G,L,O⟩;exact⟨_,_,_,⟨h1,h2,g,F,G,L,rfl,rfl⟩,O⟩
        ·rintro⟨k,ver,a,⟨h1,h2,g,F,G,L,h8,rfl⟩,O⟩;cases h8;exact⟨h1,h2,g,F,G,L,O⟩
      ·simp
    ·simp
   have an:∀(M:Mem) (k ver:Nat),M.frz [.tsl k ver 0]={M with aB:=JM [k] M.aB}:=fun M k ver=>by simp[Mem.frz,lG,lF]
   have am:∀(M:Mem) (k ver:Nat),datum M (.tsl k ver 0)=datum ⟨[],[],M.aB⟩ (.tsl k ver 0):=fun _ _ _=>rfl
   refine⟨fun M v M'=>∃a,(∃k ver H d,(au C base (.app sz false) args ⟨[],[],M.aB⟩ (fun u m=> .tsl k ver 0=u/\H=m.aB) (fun _ _=>False))/\datum ⟨[],[],H⟩ (.tsl k ver 0)=some d/\v= .d d/\a=JM [k] H)/\M'={M with aB:=a},
    ⟨fun aB v a=>∃k ver H d,(au C base (.app sz false) args ⟨[],[],aB⟩ (fun u m=> .tsl k ver 0=u/\H=m.aB) (fun _ _=>False))/\datum ⟨[],[],H⟩ (.tsl k ver 0)=some d/\v= .d d/\a=JM [k] H,fun _ _ _=>Y⟩,fun M K KP=> ?_⟩
   have:=az M (fun v M'=>∃d,datum M' v=some d/\K (.d d) (M'.frz [v])) KP;constructor
   ·intro hh
    obtain⟨k,ver,H,h1,d,h2,g⟩:=this.1 hh;rw[am]at h2;rw[an]at g;exact⟨_,_,⟨_,⟨k,ver,H,d,h1,h2,rfl,rfl⟩,rfl⟩,g⟩
   ·rintro⟨_,_,⟨_,⟨k,ver,H,d,h1,h2,rfl,rfl⟩,rfl⟩,g⟩
    exact this.2 ⟨k,ver,H,h1,d,by rw[am];exact h2,by rw[an];exact g⟩
  |rZ f=>
   simp only[kd]at h P
   by_cases ax:fl=1
   ·subst ax
    obtain⟨ds,rfl⟩:=kU (args:=args) hf;have av:∀M:Mem,dF M (ds.map .d)=some ds:=by
     intro M;clear hf h P
     induction ds with
     |nil=>rfl
     |cons d ds ih=>simp only[W,dF,datum,ih]
    simp only[kd,if_true];refine⟨fun M v M'=>∃a,(∃r I,Pure C f (ds.map DV.strip) r I/\((∃x,r= .d x/\DF x=true/\I=[]/\v=r/\a=M.aB)\/((∀A∈I,A.st≠2)/\v=r.shift M.aB.length/\a=M.aB++I.map some)))/\M'={M with aB:=a},
     ⟨fun aB v a=>∃r I,Pure C f (ds.map DV.strip) r I/\((∃x,r= .d x/\DF x=true/\I=[]/\v=r/\a=aB)\/((∀A∈I,A.st≠2)/\v=r.shift aB.length/\a=aB++I.map some)),fun _ _ _=>Y⟩,fun M K KP=> ?_⟩
    simp only[au,Nw,av,Option.some.injEq,FV];constructor
    ·rintro⟨_,rfl,r,I,U,(⟨x,rfl,Z,rfl,g2⟩|⟨Z,g2⟩)⟩
     ·exact⟨_,M,⟨_,⟨_,_,U, .inl ⟨x,rfl,Z,rfl,rfl,rfl⟩⟩,rfl⟩,g2⟩
     ·exact⟨_,_,⟨_,⟨_,_,U, .inr ⟨Z,rfl,rfl⟩⟩,rfl⟩,g2⟩
    ·rintro⟨v,M',⟨a,⟨r,I,U,(⟨x,rfl,Z,rfl,rfl,rfl⟩|⟨Z,rfl,rfl⟩)⟩,rfl⟩,g2⟩
     ·exact⟨ds,rfl,_,_,U, .inl ⟨x,rfl,Z,rfl,g2⟩⟩
     ·exact⟨ds,rfl,_,_,U, .inr ⟨Z,g2⟩⟩
   ·simp_all
  |gu sz zs is=>simp only[kd]at h P;split at h<;>simp_all
  |mkI t=>simp only[kd]at h P;split at h<;>simp_all
  |Eu sz lo hi mx=>simp only[kd]at h P;split at h<;>simp_all
  | _=>simp_all[kd]
end
def Iw (env:List (Nat×PV)):Option (Nat×Bool)->Option Bool
 |none=>some true
 |some (t,a)=>match look env t with| .d (.bool x)=>some (x==a)| .d (.tup [])=>some false| _=>none
section
variable {C:Ctx}{base:Nat}
variable{o:PO}{K:St->Prop}{KP:DV->Mem->Prop}{s:St}
def fF:fB C base o K KP s↔match Iw s.env o.g with
  |some true=>xw base o.fl (o.args.map s.val)/\au C base o.op (o.args.map s.val) s.mem (fun v M=>K ⟨put s.env o.dst v,M⟩) KP
  |some false=>K ⟨put s.env o.dst (.d (.tup [])),s.mem⟩
  |none=>False:=by
 unfold fB Iw;cases f:o.g with
 |none=>exact Y
 |some q=>
  obtain⟨t,a⟩:=q;simp only;generalize look s.env t=p;cases p with
  |d y=>
   cases y with
   |bool x=>
    simp only
    by_cases b:x=a
    ·subst b
     have:¬(x= !x):=by cases x<;>simp
     simp only[beq_self_eq_true,true_implies,this,false_implies,and_true]
    ·have h1:(x==a)=false:=by simp[b]
     have h2:x= !a:=by cases x<;>cases a<;>simp_all
     simp only[h1];constructor
     ·intro h;exact h.2 h2
     ·intro h;exact⟨fun e=>absurd e b,fun _=>h⟩
   |tup c=>cases c<;>exact Y
   | _=>exact Y
  | _=>exact Y
def Opd.isT (d:Nat):Opd->Bool| .t n=>n==d| .c _=>false
def looks (o:PO)(d:Nat):Bool:=o.args.any (Opd.isT d)||(match o.g with|some (t,_)=>t==d|none=>false)
def sO (x y:PO):Bool:=(match x.dst with|some d=> !looks y d&&decide (y.dst≠some d)|none=>true)&&(match y.dst with|some d=> !looks x d|none=>true)
variable{env:List (Nat×PV)}{dst:Option Nat}{v:PV}
def PK {t:Nat}(h:∀d,dst=some d->t≠d):look (put env dst v) t=look env t:=by
 cases dst with
 |none=>rfl
 |some d=>
  have:(d==t)=false:=by simp;exact fun e=>h d rfl e.symm
  simp[put,look,this]
variable{M:Mem}
def dV {M':Mem}(h:∀d,dst=some d->looks o d=false):
  o.args.map (St.val ⟨put env dst v,M'⟩)=o.args.map (St.val ⟨env,M⟩)/\Iw (put env dst v) o.g=Iw env o.g:=by
 constructor
 ·refine bl fun x e=> ?_
  cases x with
  |c d=>rfl
  |t n=>
   refine PK fun d hd=> ?_
   have:=h d hd;simp only[looks,bc,List.any_eq_false]at this;have:=this.1 _ e
   simpa[Opd.isT]using this
 ·cases b:o.g with
  |none=>rfl
  |some q=>
   obtain⟨t,a⟩:=q;simp only[Iw];rw[PK fun d hd=> ?_];have:=h d hd;simp only[looks,b,bc,beq_eq_false_iff_ne]at this;exact this.2
def Ext (K:St->Prop):Prop:=∀s a:St,(∀t,look s.env t=look a.env t)->s.mem=a.mem->K s->K a
def Ext.use (b:Ext K){s a:St}(h:K s)(c:∀t,look s.env t=look a.env t)(d:s.mem=a.mem):K a:=b s a c d h
def iw {c f:Option Nat}{i j:PV}(h:∀d,c=some d->f≠some d)(t:Nat):look (put (put env c i) f j) t=look (put (put env f j) c i) t:=by
 cases c with
 |none=>rfl
 |some a=>
  cases f with
  |none=>rfl
  |some b=>
   have g:a≠b:=fun e=>h a rfl (e▸rfl)
   simp only[put,look]
   by_cases h1:a=t
   ·subst h1
    have:(b==a)=false:=by simp;exact fun e=>g e.symm
    simp[this]
   ·have:(a==t)=false:=by simp[h1]
    simp[this]
def anL {a oi:PO}(hk:(kd a.op a.fl).swap (kd oi.op oi.fl)=true)(n:sO a oi=true){K:St->Prop}{KP:DV->Mem->Prop}(q:Ext K)(s:St)
  (h:fB C base a (fun A=>fB C base oi K KP A) KP s):fB C base oi (fun A=>fB C base a K KP A) KP s:=by
 have z:kd a.op a.fl≠ .x:=by intro e;rw[e]at hk;cases hk
 have p:kd oi.op oi.fl≠ .x:=by intro e;rw[e]at hk;cases hh:kd a.op a.fl<;>rw[hh]at hk<;>cases hk
 simp only[sO,H]at n;obtain⟨i,B⟩:=n;have r:∀d,a.dst=some d->looks oi d=false:=by intro d hd;rw[hd]at i;simp at i;exact i.1
 have hd:∀d,a.dst=some d->oi.dst≠some d:=by intro d hd;rw[hd]at i;simp at i;exact i.2
 have k:∀d,oi.dst=some d->looks a d=false:=by intro d hd;rw[hd]at B;simpa using B
 obtain⟨env,M⟩:=s;rw[fF]at h⊢;simp only at h⊢;cases j:Iw env a.g with
 |none=>rw[j]at h;exact h.elim
 |some I=>
  rw[j]at h;cases I with
  |false=>
   simp only at h;rw[fF]at h;simp only[(dV (M:=M) (M':=M) r).1,(dV (M:=M) (M':=M) r).2]at h;cases l:Iw env oi.g with
   |none=>rw[l]at h;exact h.elim
   |some u=>
    rw[l]at h;cases u with
    |false=>
     simp only at h⊢;rw[fF];simp only[(dV (M:=M) (M':=M) k).2,j];exact q.use h (iw hd) rfl
    |true=>
     simp only at h⊢;obtain⟨E,N⟩:=h;obtain⟨R,_,D⟩:=RI (C:=C) p E;obtain⟨v,M',r1,r2⟩:=(D _ _ _).1 N;refine⟨E,(D _ _ _).2 ⟨v,M',r1,?_⟩⟩;rw[fF];simp only[(dV (M:=M) (M':=M') k).2,j];exact q.use r2 (iw hd) rfl
  |true=>
   simp only at h;obtain⟨f,y⟩:=h;obtain⟨T,P,c⟩:=RI (C:=C) z f;obtain⟨F,t,r1,h⟩:=(c _ _ _).1 y;rw[fF]at h;simp only[(dV (M:=M) (M':=t) r).1,(dV (M:=M) (M':=t) r).2]at h;cases l:Iw env oi.g with
   |none=>rw[l]at h;exact h.elim
   |some u=>
    rw[l]at h;cases u with
    |false=>
     simp only at h⊢;rw[fF];simp only[(dV (M:=M) (M':=M) k).1,(dV (M:=M) (M':=M) k).2,j];exact⟨f,(c _ _ _).2 ⟨F,t,r1,q.use h (iw hd) rfl⟩⟩
    |true=>
     simp only at h⊢;obtain⟨o,w⟩:=h;obtain⟨S,O,m⟩:=RI (C:=C) p o;obtain⟨Q,G,r2,h⟩:=(m _ _ _).1 w;obtain⟨b,J,L⟩:=agD hk P O _ _ _ _ _ r1 r2;refine⟨o,(m _ _ _).2 ⟨Q,b,J,?_⟩⟩;rw[fF];simp only[(dV (M:=M) (M':=b) k).1,(dV (M:=M) (M':=b) k).2,j];exact⟨f,(c _ _ _).2 ⟨F,G,L,q.use h (iw hd) rfl⟩⟩
def SY.mono {b:Nat}{args:List PV}{M:Mem}{K i:PV->Mem->Prop}{KP:DV->Mem->Prop}(h:SY C b args M K KP)(hk:∀v M',K v M'->i v M'):SY C b args M i KP:=by
 intro X w E f l o n q;obtain⟨fn,d,a,body,h1,h2⟩:=h X w E f l o n q;refine⟨fn,d,a,body,h1,h2.mono fun e w' g=> ?_⟩;cases e with
 |returned v=>obtain⟨p,M',j,k,m⟩:=g;exact⟨p,M',j,hk _ _ k,m⟩
 |panicked c=>exact g
 |outgrown=>exact g
def kH {f:Bool}{l:List PV}{K b:Option Int->List PV->Prop}(hk:∀a l,K a l->b a l)(h:eu f l K):eu f l b:=by
 unfold eu at h⊢
 split at h
 ·exact hk _ _ h
 ·exact hk _ _ h
 ·exact h.elim
variable{op:POp}{args:List PV}
def Ep {K I:PV->Mem->Prop}(hk:∀v M',K v M'->I v M')(h:au C base op args M K KP):au C base op args M I KP:=by
 by_cases g:∃fl,kd op fl≠ .x/\xw base fl args
 ·obtain⟨fl,h1,h2⟩:=g
  obtain⟨R,_,L⟩:=RI (C:=C) h1 h2;obtain⟨v,M',r,k⟩:=(L _ _ _).1 h;exact(L _ _ _).2 ⟨v,M',r,hk _ _ k⟩
 ·have F:kd op 0= .x:=by
   by_cases hh:kd op 0= .x
   ·exact hh
   ·exact absurd ⟨0,hh,trivial⟩ g
  cases op with
  |XL sz=>
   simp only[au]at h⊢
   split at h
   ·exact⟨h.1,h.2.1,h.2.2.1,hk _ _ h.2.2.2⟩
   ·exact hk _ _ h
   ·exact h.elim
  |gu sz zs T=>
   simp only[au]at h⊢
   split at h
   ·rename_i ds e
    try simp only[e]
    split at h
    ·rename_i H o;(try simp only[o]);exact hk _ _ h
    ·exact h.elim
   ·exact h.elim
  |store n=>
   simp only[au]at h⊢
   split at h
   ·rename_i x y
    simp only[jE]at h⊢
    split at h
    ·split at h
     ·rename_i cs E;(try simp only[E]);exact⟨h.1,h.2.1,h.2.2.1,h.2.2.2.1,hk _ _ h.2.2.2.2⟩
     ·exact h.elim
    ·split at h
     ·rename_i A ds q e;(try simp only[q,e]);exact⟨h.1,h.2.1,h.2.2.1,h.2.2.2.1,h.2.2.2.2.1,hk _ _ h.2.2.2.2.2⟩
     ·exact h.elim
    ·exact h.elim
   ·exact h.elim
  |mkI t=>
   simp only[au]at h⊢
   split at h
   ·split at h
    ·rename_i d hd;(try simp only[hd]);exact hk _ _ h
    ·exact h.elim
   ·exact h.elim
  |NJ lo S=>
   simp only[au,yB]at h⊢
   split at h
   ·refine kH (fun a l=>kH fun b l=>kH fun m l hh=> ?_) h
    exact⟨hh.1,hh.2.1,hh.2.2.1,hh.2.2.2.1,hh.2.2.2.2.1,hk _ _ hh.2.2.2.2.2⟩
   ·exact h.elim
  |Eu sz lo S X=>
   simp only[au,yA]at h⊢
   split at h
   ·refine kH (fun a l=>kH fun b l=>kH fun m l hh=> ?_) h
    exact⟨hh.1,hh.2.1,hh.2.2.1,hh.2.2.2.1,hh.2.2.2.2.1,hh.2.2.2.2.2.1,hk _ _ hh.2.2.2.2.2.2⟩
   ·refine kH (fun a l=>kH fun b l=>kH fun m l hh=> ?_) h
    refine⟨hh.1,?_⟩;have h2:=hh.2
    split at h2
    ·rename_i A q
     try simp only[q]
     split at h2
     ·exact⟨h2.1,h2.2.1,h2.2.2.1,h2.2.2.2.1,hk _ _ h2.2.2.2.2⟩
     ·exact⟨h2.1,h2.2.1,h2.2.2.1,h2.2.2.2.1,h2.2.2.2.2.1,hk _ _ h2.2.2.2.2.2⟩
    ·exact h2.elim
   ·exact h.elim
  |call f=>exact SC.mono h hk
  |KW f=>
   obtain⟨P,h1,h2,j⟩:=h;exact⟨P,h1,h2,fun p M' u=>hk _ _ (j p M' u)⟩
  |EG agg n f=>
   cases args with
   |nil=>exact h
   |cons a N=>
    simp only[au]at h⊢;obtain⟨v,h1,h2⟩:=jM.1 h;exact jM.2 ⟨v,h1,SC.mono h2 fun p M' hh=>⟨hh.1,hk _ _ hh.2⟩⟩
  |mkRow sz z=>
   simp only[au]at h⊢
   split at h
   ·exact⟨h.1,h.2.1,h.2.2.1,h.2.2.2.1,h.2.2.2.2.1,hk _ _ h.2.2.2.2.2⟩
   ·exact h.elim
  |s2b=>
   simp only[au]at h⊢
   split at h
   ·exact hk _ _ h
   ·exact h.elim
  |b2s=>
   simp only[au]at h⊢
   split at h
   ·rename_i x
    cases g:zL 0 x M with
    |none=>simp only[g]at h
    |some H=>
     simp only[g]at h⊢;cases c:bytesOf H with
     |none=>simp only[c]at h
     |some l=>simp only[c]at h⊢;exact hk _ _ h
   ·exact h.elim
  |clr sz z=>
   simp only[au]at h⊢
   split at h
   ·rename_i k ver skip
    cases q:M.row k ver with
    |none=>simp only[q]at h
    |some A=>simp only[q]at h⊢;exact⟨h.1,h.2.1,h.2.2.1,hk _ _ h.2.2.2⟩
   ·exact h.elim
  |rZ f=>
   obtain⟨ds,h1,r,w,h2,j⟩:=h;refine⟨ds,h1,r,w,h2,j.imp ?_ ?_⟩
   ·rintro⟨x,B,D,O,Q⟩;exact⟨x,B,D,O,hk _ _ Q⟩
   ·rintro⟨B,D⟩;exact⟨B,hk _ _ D⟩
  |jd f=>
   obtain⟨ds,h1,x,h2,j,J⟩:=h;exact⟨ds,h1,x,h2,j,hk _ _ J⟩
  |jg=>
   simp only[au]at h⊢
   split at h
   ·exact⟨h.1,h.2.mono hk⟩
   ·exact⟨h.1,h.2.mono hk⟩
   ·exact SY.mono h hk
   ·exact h.elim
  |DI neq=>
   simp only[au]at h⊢
   split at h
   ·exact hk _ _ h
   ·exact hk _ _ h
   ·exact h.elim
  |rngS i=>
   simp only[au]at h⊢
   split at h
   ·exact⟨h.1,hk _ _ h.2⟩
   ·exact h.elim
  |aaS=>
   simp only[au]at h⊢
   split at h
   ·rename_i b
    cases c:M.box b with
    |none=>simp only[c]at h
    |some cs=>
     simp only[c]at h⊢
     split at h
     ·rename_i s pos V
      refine⟨h.1,?_⟩;have h2:=h.2
      split at h2
      ·rename_i u;rw[if_pos u];exact hk _ _ h2
      ·rename_i u;rw[if_neg u];exact hk _ _ h2
     ·exact h.elim
   ·exact h.elim
  |inv name=>
   simp only[au]at h⊢
   split at h
   ·obtain⟨f,h1,h2,j⟩:=h
    exact⟨f,h1,h2,j.mono hk⟩
   ·exact h.elim
  |nN sz zs T=>
   simp only[au]at h⊢
   split at h
   ·rename_i ds e
    try simp only[e]
    split at h
    ·rename_i H o;(try simp only[o]);exact⟨h.1,h.2.1,hk _ _ h.2.2⟩
    ·exact h.elim
   ·exact h.elim
  |mkMap i=>
   simp only[au]at h⊢
   split at h
   ·exact⟨h.1,hk _ _ h.2⟩
   ·exact h.elim
  |adZ G=>
   simp only[au]at h⊢
   split at h
   ·rename_i b k v
    cases c:M.box b with
    |none=>simp only[c]at h
    |some cs=>
     simp only[c]at h⊢
     split at h
     ·rename_i l U
      refine⟨h.1,?_⟩;have h2:=h.2
      split at h2
      ·rename_i W j J;exact hk _ _ h2
      ·exact h2.elim
     ·exact h.elim
   ·exact h.elim
  |Iz ok G z=>
   simp only[au]at h⊢
   split at h
   ·split at h
    ·rename_i h1 h2;(try simp only[h1,h2]);exact hk _ _ h
    ·exact h.elim
   ·rename_i b k
    cases c:M.box b with
    |none=>simp only[c]at h
    |some cs=>
     simp only[c]at h⊢
     split at h
     ·split at h
      ·exact hk _ _ h
      ·exact h.elim
     ·exact h.elim
   ·exact h.elim
  |adY G=>
   simp only[au]at h⊢
   split at h
   ·rename_i b k v
    cases c:M.box b with
    |none=>simp only[c]at h
    |some cs=>
     simp only[c]at h⊢
     split at h
     ·refine⟨h.1,?_⟩
      have h2:=h.2
      split at h2
      ·exact hk _ _ h2
      ·exact h2.elim
     ·exact h.elim
   ·exact h.elim
  |adW G=>
   simp only[au]at h⊢
   split at h
   ·rename_i b k
    cases c:M.box b with
    |none=>simp only[c]at h
    |some cs=>
     simp only[c]at h⊢
     split at h
     ·refine⟨h.1,?_⟩
      have h2:=h.2
      split at h2
      ·exact hk _ _ h2
      ·exact h2.elim
     ·exact h.elim
   ·exact h.elim
  |isNil neq=>
   simp only[au]at h⊢
   split at h
   ·exact⟨fun g=>hk _ _ (h.1 g),fun g b=>hk _ _ (h.2 g b)⟩
   ·exact h.elim
  |panic=>exact h
  | _=>simp[kd]at F
def U9 {a:St->Prop}(hk:∀s,K s->a s)(h:fB C base o K KP s):fB C base o a KP s:=by
 rw[fF]at h⊢;cases c:Iw s.env o.g with
 |none=>rw[c]at h;exact h
 |some b=>
  rw[c]at h;cases b with
  |false=>exact hk _ h
  |true=>exact⟨h.1,Ep (fun v M' hh=>hk _ hh) h.2⟩
def anR {a:St}(h:∀t,look s.env t=look a.env t)(args:List Opd):args.map s.val=args.map a.val:=by
 refine bl fun x _=> ?_
 cases x with
 |c d=>rfl
 |t n=>exact h n
def LG {a:List (Nat×PV)}(h:∀t,look env t=look a t)(dst:Option Nat)(v:PV)(t:Nat):look (put env dst v) t=look (put a dst v) t:=by
 cases dst with
 |none=>exact h t
 |some d=>simp only[put,look,h]
def ahN (d:Ext K):Ext (fB C base o K KP):=by
 intro s j c i h;rw[fF]at h⊢;have f:Iw j.env o.g=Iw s.env o.g:=by
  cases o.g with
  |none=>rfl
  |some q=>obtain⟨t,e⟩:=q;simp only[Iw,c]
 rw[f,<-anR c,<-i];cases a:Iw s.env o.g with
 |none=>rw[a]at h;exact h
 |some b=>
  rw[a]at h;cases b with
  |false=>exact d.use h (LG c _ _) rfl
  |true=>exact⟨h.1,Ep (K:=fun v M=>K ⟨put s.env o.dst v,M⟩) (fun v M' hh=>d.use hh (LG c _ _) rfl) h.2⟩
def aiY {fl:Nat}(h:op= .mov\/(fl=1/\∃ag n,op= .load ag n))(hf:xw base fl args):∃(c:Prop) (v:PV),∀M K KP,au C base op args M K KP↔c/\K v M:=by
 rcases h with rfl|⟨rfl,ag,n,rfl⟩
 ·rcases args with _|⟨x,_|⟨y,l⟩⟩
  ·exact⟨False, .dead,fun M K KP=>by simp[au]⟩
  ·exact⟨True,x,fun M K KP=>by simp[au]⟩
  ·exact⟨False, .dead,fun M K KP=>by simp[au]⟩
 ·obtain⟨ds,rfl⟩:=kU (args:=args) hf
  rcases ds with _|⟨x,_|⟨y,l⟩⟩
  ·exact⟨False, .dead,fun M K KP=>by simp[au]⟩
  ·cases x with
   |aW cs=>exact⟨n<=cs.length,_,fun M K KP=>by simp only[W,ab,au,bZ];exact Y⟩
   | _=>exact⟨False, .dead,fun M K KP=>by simp[au,bZ]⟩
  ·exact⟨False, .dead,fun M K KP=>by simp[au]⟩
def alk {a oi:PO}{f:FuncId}(j:a.op= .KW f)(u:oi.op= .mov\/(oi.fl=1/\∃ag n,oi.op= .load ag n))(t:sO a oi=true){K:St->Prop}{KP:DV->Mem->Prop}(y:Ext K)(s:St)
  (h:fB C base a (fun E=>fB C base oi K KP E) KP s):fB C base oi (fun E=>fB C base a K KP E) KP s:=by
 simp only[sO,H]at t;obtain⟨l,F⟩:=t;have i:∀d,a.dst=some d->looks oi d=false:=by intro d hd;rw[hd]at l;simp at l;exact l.1
 have hd:∀d,a.dst=some d->oi.dst≠some d:=by intro d hd;rw[hd]at l;simp at l;exact l.2
 have r:∀d,oi.dst=some d->looks a d=false:=by intro d hd;rw[hd]at F;simpa using F
 obtain⟨env,M⟩:=s;rw[fF]at h⊢;simp only at h⊢;cases m:Iw env a.g with
 |none=>rw[m]at h;exact h.elim
 |some J=>
  rw[m]at h;cases J with
  |false=>
   simp only at h;rw[fF]at h;simp only[(dV (M:=M) (M':=M) i).1,(dV (M:=M) (M':=M) i).2]at h;cases e:Iw env oi.g with
   |none=>rw[e]at h;exact h.elim
   |some z=>
    rw[e]at h;cases z with
    |false=>
     simp only at h⊢;rw[fF];simp only[(dV (M:=M) (M':=M) r).2,m];exact y.use h (iw hd) rfl
    |true=>
     simp only at h⊢;obtain⟨G,L⟩:=h;obtain⟨c,v,o⟩:=aiY (C:=C) u G;obtain⟨r1,r2⟩:=(o _ _ _).1 L;refine⟨G,(o _ _ _).2 ⟨r1,?_⟩⟩;rw[fF];simp only[(dV (M:=M) (M':=M) r).2,m];exact y.use r2 (iw hd) rfl
  |true=>
   simp only[j]at h;obtain⟨x,P,I,⟨q,N,B⟩,D⟩:=h;have b:fB C base oi K KP ⟨put env a.dst q,N⟩:=D q N B;rw[fF]at b;simp only[(dV (M:=M) (M':=N) i).1,(dV (M:=M) (M':=N) i).2]at b;cases e:Iw env oi.g with
   |none=>rw[e]at b;exact b.elim
   |some z=>
    rw[e]at b;cases z with
    |false=>
     simp only;rw[fF];simp only[(dV (M:=M) (M':=M) r).1,(dV (M:=M) (M':=M) r).2,m,j];refine⟨x,P,I,⟨q,N,B⟩,fun p M' A=> ?_⟩;have k:fB C base oi K KP ⟨put env a.dst p,M'⟩:=D p M' A;rw[fF]at k;simp only[(dV (M:=M) (M':=M') i).2,e]at k;exact y.use k (iw hd) rfl
    |true=>
     simp only at b⊢;obtain⟨w,b⟩:=b;obtain⟨c,v,o⟩:=aiY (C:=C) u w;refine⟨w,(o _ _ _).2 ⟨((o _ _ _).1 b).1,?_⟩⟩;rw[fF];simp only[(dV (M:=M) (M':=M) r).1,(dV (M:=M) (M':=M) r).2,m,j];refine⟨x,P,I,⟨q,N,B⟩,fun p M' A=> ?_⟩;have k:fB C base oi K KP ⟨put env a.dst p,M'⟩:=D p M' A;rw[fF]at k;simp only[(dV (M:=M) (M':=M') i).1,(dV (M:=M) (M':=M') i).2,e]at k;exact y.use ((o _ _ _).1 k.2).2 (iw hd) rfl
def aoc (q p:PO):Bool:=
 match q.op,p.op,q.args,p.args with
 | .load ag n, .EG c d _,[.t a], .t b::_=>ag==c&&n==d&&a==b&&q.fl==0&&p.fl==0&&q.g.isNone&&p.g.isNone
 | .EG ag n _, .load c d, .t a::_,[.t b]=>ag==c&&n==d&&a==b&&q.fl==0&&p.fl==0&&q.g.isNone&&p.g.isNone
 | .KW _, .mov,_,_=>true
 | .KW _, .load _ _,_,_=>p.fl==1
 | _,_,_,_=>false
def Vt (q p:PO):Bool:=(kd q.op q.fl).swap (kd p.op p.fl)||aoc q p
def aaJ {agg:Bool}{n:Nat}{x:PV}{b:PV}(h:bZ agg n x M fun u=>v=u)(h':bZ agg n x M fun u=>b=u):v=b:=by
 unfold bZ at h h'
 split at h
 ·split at h
  ·rename_i a;simp only[a]at h';rw[h.2,h'.2]
  ·exact h.elim
 ·rw[h.2,h'.2]
 ·split at h
  ·rename_i a;simp only[a]at h';rw[h.2,h'.2]
  ·exact h.elim
 ·exact h.elim
def wZ (a:o.g=none)(hf:o.fl=0):fB C base o K KP s↔au C base o.op (o.args.map s.val) s.mem (fun v M=>K ⟨put s.env o.dst v,M⟩) KP:=by
 unfold fB;rw[a,hf];exact⟨fun h=>h.2,fun h=>⟨trivial,h⟩⟩
def alm {g oi:PO}(hk:Vt g oi=true)(e:sO g oi=true){K:St->Prop}{KP:DV->Mem->Prop}(q:Ext K)(s:St)
  (h:fB C base g (fun B=>fB C base oi K KP B) KP s):fB C base oi (fun B=>fB C base g K KP B) KP s:=by
 simp only[Vt,aE]at hk
 rcases hk with hk|hk
 ·exact anL hk e q s h
 simp only[sO,H]at e;obtain⟨c,u⟩:=e;have E:∀d,g.dst=some d->looks oi d=false:=by intro d hd;rw[hd]at c;simp at c;exact c.1
 have hd:∀d,g.dst=some d->oi.dst≠some d:=by intro d hd;rw[hd]at c;simp at c;exact c.2
 have D:∀d,oi.dst=some d->looks g d=false:=by intro d hd;rw[hd]at u;simpa using u
 obtain⟨env,M⟩:=s;unfold aoc at hk
 split at hk
 ·rename_i ag n z I f a b r h1 h2 o w
  simp only[H,beq_iff_eq,aM]at hk;obtain⟨⟨⟨⟨⟨⟨rfl,rfl⟩,rfl⟩,j⟩,k⟩,l⟩,m⟩:=hk;rw[wZ l j]at h;rw[wZ m k];simp only[h1,o,W,ab,au]at h;obtain⟨v,x,i⟩:=jM.1 h;rw[wZ m k]at i;simp only[(dV (M:=M) (M':=M) E).1]at i;simp only[h2,w,W,au]at i⊢;obtain⟨L,F,J⟩:=jM.1 i;refine jM.2 ⟨L,F,SC.mono J fun p M' hh=>⟨hh.1,?_⟩⟩;rw[wZ l j];simp only[(dV (M:=M) (M':=M') D).1];simp only[h1,o,W,ab,au];obtain⟨G,r1,r2⟩:=jM.1 hh.1;have A:=aaJ x F;refine jM.2 ⟨G,r1,q.use hh.2 (fun t=> ?_) rfl⟩;rw[r2,<-A];exact iw hd t
 ·rename_i ag n f z I a r b h1 h2 o w
  simp only[H,beq_iff_eq,aM]at hk;obtain⟨⟨⟨⟨⟨⟨rfl,rfl⟩,rfl⟩,j⟩,k⟩,l⟩,m⟩:=hk;rw[wZ l j]at h;rw[wZ m k];simp only[h1,o,W,au]at h;obtain⟨v,x,i⟩:=jM.1 h;simp only[h2,w,W,ab,au];refine jM.2 ⟨v,x,?_⟩;rw[wZ l j];simp only[(dV (M:=M) (M':=M) D).1];simp only[h1,o,W,au];refine jM.2 ⟨v,x,SC.mono i fun p M' hh=>⟨hh.1,?_⟩⟩;have y:=hh.2;rw[wZ m k]at y;simp only[(dV (M:=M) (M':=M') E).1]at y;simp only[h2,w,W,ab,au]at y;obtain⟨G,r1,r2⟩:=jM.1 y;obtain⟨N,r3,r4⟩:=jM.1 hh.1;have A:=aaJ r1 r3;refine q.use r2 (fun t=> ?_) rfl;rw[A,r4];exact iw hd t
 ·rename_i f h1 h2
  exact alk h1 (.inl h2) (by simp only[sO,H];exact⟨c,u⟩) q ⟨env,M⟩ h
 ·rename_i f ag n h1 h2
  exact alk h1 (.inr ⟨by simpa using hk,ag,n,h2⟩) (by simp only[sO,H];exact⟨c,u⟩) q ⟨env,M⟩ h
 ·cases hk
def V6 (C:Ctx)(base:Nat)(ps:List PO):List Nat->(St->Prop)->(DV->Mem->Prop)->St->Prop
 | [],K,_,s=>K s
 |i::l,K,KP,s=>match ps[i]? with
  |some p=>fB C base p (fun a=>V6 C base ps l K KP a) KP s
  |none=>False
def abR {ps:List PO}{K:St->Prop}{KP:DV->Mem->Prop}(a:Ext K):∀l,Ext (V6 C base ps l K KP)
 | []=>a
 |i::l=>by
  intro s d b c h;simp only[V6]at h⊢
  split at h
  ·rename_i p e;exact ahN (abR a l) s d b c h
  ·exact h.elim
def U7 {ps:List PO}{i:Nat}{p:PO}(d:ps[i]?=some p){K:St->Prop}{KP:DV->Mem->Prop}(b:Ext K){l2:List Nat}:∀{l1:List Nat} (_:∀j∈l1,∀q,ps[j]?=some q->Vt q p=true/\sO q p=true) {s:St},
  V6 C base ps (l1++i::l2) K KP s->fB C base p (fun f=>V6 C base ps (l1++l2) K KP f) KP s
 | [],_,s,h=>by simpa[V6,d]using h
 |j::l1,c,s,h=>by
  simp only[bq,V6]at h⊢
  split at h
  ·rename_i q e
   obtain⟨g,k⟩:=c j (by simp) q e
   try simp only[e]
   exact alm g k (abR b _) s (U9 (fun f l=>U7 d b (fun m a=>c m (by simp[a])) l) h)
  ·exact h.elim
def U8 {ps:List PO}{K:St->Prop}{KP:DV->Mem->Prop}:∀(n k:Nat) (s:St),k+n=ps.length->vU C base (ps.drop k) K KP s->V6 C base ps (bh k n) K KP s
 |0,k,s,c,h=>by
  rw[List.drop_eq_nil_of_le (by omega)]at h;exact h
 |n+1,k,s,c,h=>by
  have a:k<ps.length:=by omega
  rw[List.drop_eq_getElem_cons a]at h;simp only[a6,V6,ao a];exact U9 (fun d b=>U8 n (k+1) d (by omega) b) h
end
def uj (o:Oper):List Nat:=(o.after.toList.filter (Region.binds .any)).map (·.on)
def Og (a:List Nat)(ps:List Nat):Nat:=ps.foldl (fun m k=>m|||(1<<<k)|||a.getD k 0) 0
def ac2:List (List Nat)->List Nat->List Nat
 | [],a=>a
 |c::b,a=>ac2 b (a++ [Og a c])
def afu (a:List Nat)(ps:List PO):Bool:=
 (bp ps.length).all fun i=>(bp i).all fun j=>(a.getD i 0).testBit j||match ps[j]?,ps[i]? with
  |some q,some p=>Vt q p&&sO q p
  | _,_=>false
def Yv (ops:Array Oper)(ps:List PO):Bool:=
 let a:=ops.toList.map uj
 (a.zipIdx.all fun(l,i)=>l.all fun k=>decide (k<i))&&afu (ac2 a []) ps
inductive Rch (pre:List (List Nat)):Nat->Nat->Prop
 |one {j i:Nat} {l:List Nat} (hl:pre[i]?=some l) (h:j∈l):Rch pre j i
 |step {j k i:Nat} {l:List Nat} (hl:pre[i]?=some l) (h:k∈l) (t:Rch pre j k):Rch pre j i
def aaM {pre:List (List Nat)}{b:List Nat}{i:Nat}{l:List Nat}(hl:pre[i]?=some l)(c:∀k j,(b.getD k 0).testBit j=true->Rch pre j k){j:Nat}(h:(Og b l).testBit j=true):Rch pre j i:=by
 have n:∀(d:List Nat) (m:Nat),(∀k∈d,k∈l)->(m.testBit j=true->Rch pre j i)->(d.foldl (fun m k=>m|||(1<<<k)|||b.getD k 0) m).testBit j=true->Rch pre j i:=by
  intro d
  induction d with
  |nil=>intro m _ g h;exact g h
  |cons k d o=>
   intro m e g h;refine o _ (fun p f=>e p (by simp[f])) (fun a=> ?_) h;simp only[Nat.testBit_or,aE]at a
   rcases a with(a|a)|a
   ·exact g a
   ·rw[Nat.one_shiftLeft,Nat.testBit_two_pow]at a
    simp only[decide_eq_true_eq]at a;subst a;exact .one hl (e _ (by simp))
   ·exact .step hl (e k (by simp)) (c k j a)
 exact n l 0 (fun _ h=>h) (fun h=>by simp at h) h
def Pj {pre:List (List Nat)}:∀(rest:List (List Nat)) (a:List Nat),(∀j,rest[j]?=pre[a.length+j]?)->(∀k j,(a.getD k 0).testBit j=true->Rch pre j k)->
  ∀k j,((ac2 rest a).getD k 0).testBit j=true->Rch pre j k
 | [],a,_,h=>h
 |l::rest,a,d,h=>by
  refine Pj rest _ (fun j=> ?_) fun k j b=> ?_
  ·have:=d (j+1)
   simp only[List.getElem?_cons_succ]at this;rw[this];simp only[List.length_append,List.length_singleton];congr 1;omega
  ·by_cases e:k<a.length
   ·have:(a++ [Og a l]).getD k 0=a.getD k 0:=by simp[bN,List.getElem?_append_left e]
    rw[this]at b;exact h k j b
   ·by_cases c:k=a.length
    ·subst c
     have:(a++ [Og a l]).getD a.length 0=Og a l:=by simp[bN]
     rw[this]at b;exact aaM (by have:=d 0;simpa using this.symm) h b
    ·have:(a++ [Og a l]).getD k 0=0:=by
      rw[bN,List.getElem?_eq_none (by simp;omega)];rfl
     rw[this]at b;simp at b
section
variable {C:Ctx}{X:Nat->Prop}{w:World}{E:Emb}{lo:Lo}{ro:Option Nat}
structure Done (ops:Array Oper) (listed:Array Bool) (rest:List Nat):Prop where
 size:listed.size=ops.size
 mem:∀j,j∈rest↔(j<ops.size/\listed.getD j true=false)
 sorted:rest.Pairwise (·<·)
 closed:∀j o,ops[j]?=some o->listed.getD j false=true->∀k∈uj o,listed.getD k false=true
def Oh {o:Oper}{k:Nat}:k∈uj o↔∃e∈o.after,Region.binds .any e=true/\e.on=k:=by
 simp[uj,and_assoc]
variable{ops:Array Oper}
def aew {listed:Array Bool}{rest:List Nat}(hd:Done ops listed rest){j i:Nat}(h:Rch (ops.toList.map uj) j i):
  (∀o,ops[i]?=some o->∀k∈uj o,listed.getD k false=true)->listed.getD j false=true:=by
 induction h with
 |one a h=>
  intro b;simp only[ax,ae,aq]at a;obtain⟨o,c,rfl⟩:=a;exact b o c _ h
 |step a h t f=>
  intro b;simp only[ax,ae,aq]at a;obtain⟨o,c,rfl⟩:=a;have e:=b o c _ h;exact f fun g d=>hd.closed _ g d e
def af0 {n:Nat}(ap:∀q,lo.fx=some q->∀o∈ops,o.dst≠some q.1){ps:List PO}(aM:LQ C.P n ops ops.toList ps=true)(N:Yv ops ps=true){base:Nat}{K:St->Prop}{KP:DV->Mem->Prop}{Q:Exit->Act->World->Prop}{w₀:World}{M₀:Mem}{E₀:Emb}
  (R:Ext K)
  (hK:∀s' t w' E',K s'->InS C X lo n s' t w' E'->From w₀ M₀ E₀ w' s'.mem E'->Q .normal t w')
  (ac:∀d M' t w' E' v,KP d M'->Sim C X w' M' E'->From w₀ M₀ E₀ w' M' E'->bP w' (away X M' E') v d->okD lo X t.defers w'->(∀q,lo.fx=some q->t.eval (.tmp q.1)=q.2)->Q (.panic [{v,recovered:=false}]) t w'):
  ∀(f:Nat) (rest:List Nat) (listed:Array Bool),f=rest.length->Done ops listed rest->∀(s:St) (a:Act) (w:World) (E:Emb),InS C X lo n s a w E->From w₀ M₀ E₀ w s.mem E->V6 C base ps rest K KP s->
   wpAnyIn (RF ro) 0 C.P .any ops Q f listed a w:=by
 obtain⟨Y,T⟩:=Ie aM;simp only[Array.length_toList]at Y;simp only[Yv,H]at N;obtain⟨G,ajC⟩:=N;have az:∀i o,ops[i]?=some o->∀k∈uj o,k<i:=by
  intro i o A k J;simp only[aD]at G;have:=G (uj o,i) (by
   rw[List.mem_zipIdx_iff_getElem?];simp[A])
  simp only[aD,decide_eq_true_eq]at this;exact this k J
 have arF:=Pj (pre:=ops.toList.map uj) (ops.toList.map uj) [] (fun j=>by simp) (fun k j h=>by simp at h);have aqL:∀i j q p,j<i->ps[j]?=some q->ps[i]?=some p->Rch (ops.toList.map uj) j i\/(Vt q p=true/\sO q p=true):=by
  intro i j q p c hq hp;simp only[afu,aD,List.mem_range,aE]at ajC;have hi:i<ps.length:=(ai.1 hp).1
  rcases ajC i hi j c with h|h
  ·exact .inl (arF i j h)
  ·rw[hq,hp]at h
   simp only[H]at h;exact .inr h
 intro f
 induction f with
 |zero=>
  intro rest listed hf hd s a w E h u hr;have:rest=[]:=List.length_eq_zero_iff.1 hf.symm;subst this;refine⟨?_,hK s a w E hr h u⟩;cases a0:Region.ready .any ops listed with
  |nil=>rfl
  |cons i l=>
   have F:i∈Region.ready .any ops listed:=by rw[a0];simp
   rw[mem_ready]at F;obtain⟨h0,o,A,_⟩:=F;have:=(hd.mem i).2 ⟨(aL.1 A).1,h0⟩;cases this
 |succ f ih=>
  intro rest listed hf hd s a w E h u hr;refine⟨fun Z=> ?_,fun i hi=> ?_⟩
  ·exfalso
   cases rest with
   |nil=>simp at hf
   |cons i l=>
    obtain⟨z,ax⟩:=(hd.mem i).1 (by simp);have:i∈Region.ready .any ops listed:=by
     rw[mem_ready];refine⟨ax,ops[i],an z,fun e O M=> ?_⟩;have J:=az i ops[i] (an z) e.on (Oh.2 ⟨e,O,M,rfl⟩);cases W:listed.getD e.on false with
     |true=>rfl
     |false=>
      have r:e.on<listed.size:=by rw[hd.size];omega
      have I:listed.getD e.on true=false:=by
       simp only[S,an r,a7]at W⊢;exact W
      have m:=(hd.mem e.on).2 ⟨by omega,I⟩
      rcases aR.1 m with a2|m
      ·omega
      ·have:=(am.1 hd.sorted).1 _ m
       omega
    rw[Z]at this;cases this
  ·obtain⟨aw,o,A,B⟩:=mem_ready.1 hi
   have z:i<ops.size:=(aL.1 A).1;have m:=(hd.mem i).2 ⟨z,aw⟩;obtain⟨l1,l2,rfl⟩:=List.append_of_mem m;have L:i<ps.length:=by omega
   obtain⟨o',ab,arY⟩:=T i ps[i] (ao L);rw[aq,A]at ab;cases ab;have b:=be.1 hd.sorted;have apg:=U7 (C:=C) (base:=base) (ao L) R (l1:=l1) (l2:=l2) (fun j D q hq=>by
    have c:j<i:=b.2.2 j D i (by simp)
    rcases aqL i j q ps[i] c hq (ao L)with hr|hc
    ·exfalso
     have W:=aew hd hr fun o2 g k J=>by
      rw[A]at g;cases g;obtain⟨e,O,M,rfl⟩:=Oh.1 J;exact B e O M
     have U:=(hd.mem j).1 (by simp[D]);have r:j<listed.size:=by rw[hd.size];exact U.1
     have I:=U.2;simp only[S,an r,a7]at W I;rw[W]at I;cases I
    ·exact hc) hr
   refine abr ap A arY h apg (fun s' t w' E' a1 av ae=> ?_) (fun d M' t w' E' v h1 h2 I h4 h5=>ac d M' t w' E' v h1 h2 (u.trans I) h4 h5);refine ih (l1++l2) (listed.setIfInBounds i true) (by simp at hf⊢;omega) ?_ s' t w' E' av (u.trans ae) a1;have a3:=hd.sorted;refine⟨by simp[hd.size],fun j=> ?_,?_,fun j o2 g V k J=> ?_⟩
   ·by_cases c:j=i
    ·subst c
     constructor
     ·intro D
      exfalso
      rcases bz.1 D with D|D
      ·exact absurd (b.2.2 j D j (by simp)) (by omega)
      ·exact absurd ((am.1 b.2.1).1 j D) (by omega)
     ·rintro⟨h1,h2⟩
      exfalso
      have r:j<listed.size:=by rw[hd.size];exact h1
      simp[r]at h2
    ·rw[getD_set_ne true (Ne.symm c)]
     have:=hd.mem j;simp only[bz,aR,c,false_or]at this⊢;exact this
   ·refine be.2 ⟨b.1,(am.1 b.2.1).2,fun x hx y hy=>b.2.2 x hx y (by simp[hy])⟩
   ·by_cases c:j=i
    ·subst c
     rw[A]at g;cases g;obtain⟨e,O,M,rfl⟩:=Oh.1 J;exact getD_set_true (B e O M)
    ·rw[getD_set_ne false (Ne.symm c)]at V
     exact getD_set_true (hd.closed j o2 g V k J)
def ac7 {n:Nat}(l:∀q,lo.fx=some q->∀o∈ops,o.dst≠some q.1){ps:List PO}(u:C.P.follows .mixedOrders=true)(g:LQ C.P n ops ops.toList ps=true)(k:Yv ops ps=true){base id:Nat}{K:St->Prop}{KP:DV->Mem->Prop}{Q:Exit->Act->World->Prop}
  {s:St}{a:Act}{w₀:World}{M₀:Mem}{E₀:Emb}(f:Ext K)(h:InS C X lo n s a w E)(hf:From w₀ M₀ E₀ w s.mem E)(x:vU C base ps K KP s)
  (t:∀p e w' E',K p->InS C X lo n p e w' E'->From w₀ M₀ E₀ w' p.mem E'->Q .normal e w')
  (i:∀d M' e w' E' v,KP d M'->Sim C X w' M' E'->From w₀ M₀ E₀ w' M' E'->bP w' (away X M' E') v d->okD lo X e.defers w'->(∀q,lo.fx=some q->e.eval (.tmp q.1)=q.2)->Q (.panic [{v,recovered:=false}]) e w'):
  (Code.region id ops true).wpIn (RF ro) 0 C.P Q a w:=by
 refine wpIn_region_any u ?_;have c:ops.size=ps.length:=by simpa using(Ie g).1
 have r:Later w {w with drawn:=w.drawn+1}:=⟨rfl,rfl,rfl,ap _,fun _ _=>rfl⟩
 have m:=U8 (C:=C) (base:=base) (ps:=ps) (K:=K) (KP:=KP) ps.length 0 s (by simp) (by simpa using x);refine af0 (C:=C) (X:=X) l g k f t i ops.size (bh 0 ps.length) (aw ops.size false) (by simp[c]) ?_ s a _ E (h.later r) (hf.trans (r.from s.mem E)) m;refine⟨by simp,fun j=> ?_,?_,fun j o _ b=> ?_⟩
 ·simp only[List.mem_range'_1,bw,true_and,bS,<-c]
  constructor
  ·intro b;exact⟨b,by simp[b]⟩
  ·exact fun b=>b.1
 ·exact List.pairwise_lt_range' ..
 ·exfalso
  simp[Array.getElem?_replicate]at b
  split at b<;>simp at b
end
def wpB (B:FuncId->Prop)(F:Fence)(n:Nat)(P:Program)(c:Code)(Q:Exit->Act->World->Prop)(a:Act)(w:World):Prop:=
 ∀(b:Frame) (k:List Item) (cs:List Frame),b.roundOf=F.round->F.fn b.fn->B b.fn->F.room (cs.length+1+n)->
  ∃e d w',Q e d w'/\ArrivesIn (Machine.fenced P F) P (lone (b.atR a (.code c::k)) cs w) b k cs e d w'
section
variable {B:FuncId->Prop}{F:Fence}{n:Nat}{P:Program}{Q:Exit->Act->World->Prop}{a:Act}{w:World}
variable{c:Code}
def Ht (h:c.wpIn F n P Q a w):wpB B F n P c Q a w:=fun b k cs d e _ f=>h b k cs d e f
def anV (h:wpB (fun _=>True) F n P c Q a w):c.wpIn F n P Q a w:=fun b k cs d e f=>h b k cs d e trivial f
def xq {f:Exit->Act->World->Prop}(h:wpB B F n P c Q a w)(l:∀e a w,Q e a w->f e a w):wpB B F n P c f a w:=
 fun b k cs d j i m=>let⟨e,g,w',q,r⟩:=h b k cs d j i m;⟨e,g,w',l _ _ _ q,r⟩
variable{x y:Code}
def anW (h:wpB B F n P x (Exit.then (wpB B F n P y Q) Q) a w):wpB B F n P (Code.seq x y) Q a w:=by
 intro b k cs j o r q;have f:(lone (b.atR a (.code (.seq x y)::k)) cs w).fenced P F:=fenced_calm o q rfl;obtain⟨e,i,m,g,c⟩:=h b (.code y::k) cs j o r q;cases e with
 |normal=>
  obtain⟨t,s,u,p,d⟩:=g b k cs j o r q;exact⟨t,s,u,p, .of_steps (.head f stepR_seq c) d⟩
 |exit id=>exact⟨_,i,m,g, .of_steps (.one f stepR_seq) (.pass (x:= .code y) rfl (fun _ _=> .inl (by simp)) c)⟩
 |goto l=>exact⟨_,i,m,g, .of_steps (.one f stepR_seq) (.pass (x:= .code y) rfl (fun _ _=> .inl (by simp)) c)⟩
 |ret=>exact⟨_,i,m,g, .of_steps (.one f stepR_seq) (.pass (x:= .code y) rfl (fun _ _=> .inl (by simp)) c)⟩
 |panic v=>exact⟨_,i,m,g, .of_steps (.one f stepR_seq) (.pass (x:= .code y) rfl (fun _ _=> .inl (by simp)) c)⟩
 |outgrown=>exact⟨_,i,m,g, .of_steps (.one f stepR_seq) (.pass (x:= .code y) rfl (fun _ _=> .inl (by simp)) c)⟩
def acy {c:Operand}{t:Bool}(hc:a.eval c= .bool t)(h:wpB B F n P (if t then x else y) Q a w):wpB B F n P (Code.cond c x y) Q a w:=
 fun b k cs d f j g=>let⟨e,i,w',q,r⟩:=h b k cs d f j g;⟨e,i,w',q, .of_steps (.one (fenced_calm f g rfl) (stepR_cond hc)) r⟩
def VA {c:Operand}{t:Bool}(hc:a.eval c= .bool t)(b:t=true->wpB B F n P x Q a w)
  (hf:t=false->wpB B F n P y Q a w):wpB B F n P (Code.cond c x y) Q a w:=by
 cases t
 ·exact acy hc (hf rfl)
 ·exact acy hc (b rfl)
def ah8 {id:Nat}(h:wpB B F n P c (Exit.inBlock id Q) a w):wpB B F n P (Code.block id c) Q a w:=by
 intro b k cs t r x s;have g:(lone (b.atR a (.code (.block id c)::k)) cs w).fenced P F:=fenced_calm r s rfl;obtain⟨e,j,p,i,d⟩:=h b (.inBlock id::k) cs t r x s;cases e with
 |normal=>exact⟨.normal,j,p,i, .head g stepR_block (StepsIn.trans d (.one (fenced_calm r s rfl) stepR_inBlock))⟩
 |exit f=>
  by_cases hid:f=id
  ·simp only[Exit.inBlock,hid,if_true]at i
   exact⟨.normal,j,p,i, .head g stepR_block (d.1 k (by simp[exitTo,hid]))⟩
  ·simp only[Exit.inBlock,hid,if_false]at i
   have this:(id==f)=false:=by simp;exact fun h=>hid h.symm
   have q:exitTo f (.inBlock id::k)=exitTo f k:=by simp[exitTo,this]
   exact⟨.exit f,j,p,i,fun u m=> .head g stepR_block (d.1 u (by rw[q];exact m)),
    fun o m=>let⟨v,h1,h2⟩:=d.2 o (by rw[q];exact m);⟨v,h1, .head g stepR_block h2⟩⟩
 |goto l=>
  have q:gotoIn l (.inBlock id::k)=gotoIn l k:=by simp[gotoIn]
  exact⟨_,j,p,i,fun u m=> .head g stepR_block (d.1 u (by rw[q];exact m)),
   fun o m=>let⟨v,h1,h2⟩:=d.2 o (by rw[q];exact m);⟨v,h1, .head g stepR_block h2⟩⟩
 |ret=>exact⟨_,j,p,i, .of_steps (.one g stepR_block) d⟩
 |panic y=>exact⟨_,j,p,i, .of_steps (.one g stepR_block) d⟩
 |outgrown=>exact⟨_,j,p,i, .of_steps (.one g stepR_block) d⟩
def alC (I:Nat->Act->World->Prop)(G:Nat)(D:I G a w)
  (round:∀j a w,I j a w->wpB B F n P c (Exit.then (fun h w'=>∃o,o<j/\I o h w') Q) a w):wpB B F n P (Code.loop c) Q a w:=by
 intro b k cs u q A t;have v:∀j a w,I j a w->
   ∃e h w',Q e h w'/\ArrivesIn (Machine.fenced P F) P (lone (b.atR a (.code c:: .inLoop c::k)) cs w) b k cs e h w':=by
  intro j
  induction j using Nat.strongRecOn with
  | _ j E=>
   intro a w C;obtain⟨e,i,m,f,d⟩:=round j a w C b (.inLoop c::k) cs u q A t;cases e with
   |normal=>
    obtain⟨o,r,p⟩:=f;obtain⟨z,y,H,s,g⟩:=E o r i m p;exact⟨z,y,H,s, .of_steps (StepsIn.trans d (.one (fenced_calm q t rfl) stepR_inLoop)) g⟩
   |exit id=>exact⟨_,i,m,f, .pass (x:= .inLoop c) rfl (fun _ _=> .inl (by simp)) d⟩
   |goto l=>exact⟨_,i,m,f, .pass (x:= .inLoop c) rfl (fun _ _=> .inl (by simp)) d⟩
   |ret=>exact⟨_,i,m,f, .pass (x:= .inLoop c) rfl (fun _ _=> .inl (by simp)) d⟩
   |panic J=>exact⟨_,i,m,f, .pass (x:= .inLoop c) rfl (fun _ _=> .inl (by simp)) d⟩
   |outgrown=>exact⟨_,i,m,f, .pass (x:= .inLoop c) rfl (fun _ _=> .inl (by simp)) d⟩
 obtain⟨e,h,w',f,d⟩:=v _ a w D;exact⟨e,h,w',f, .of_steps (.one (fenced_calm q t rfl) stepR_loop) d⟩
variable{b:Frame}
def oO {k:List Item}{cs:List Frame}:step P (lone (b.atR a (.code (.scope c)::k)) cs w)= .next (lone (b.atR a (.code c:: .inScope c::k)) cs w):=
 step_lone_go (by simp[stepG,stepG.exec,Frame.atR])
def Vr {k:List Item}{cs:List Frame}:step P (lone (b.atR a (.inScope c::k)) cs w)= .next (lone (b.atR a k) cs w):=
 step_lone_go (by simp[stepG,stepG.exec,Frame.atR])
def ah9 (h:wpB B F n P c (Exit.noGoto Q) a w):wpB B F n P (Code.scope c) Q a w:=by
 intro b k cs r m t p;have f:(lone (b.atR a (.code (.scope c)::k)) cs w).fenced P F:=fenced_calm m p rfl;obtain⟨e,i,j,g,d⟩:=h b (.inScope c::k) cs r m t p;cases e with
 |normal=>exact⟨.normal,i,j,g, .head f oO (StepsIn.trans d (.one (fenced_calm m p rfl) Vr))⟩
 |exit id=>
  have s:exitTo id (.inScope c::k)=exitTo id k:=by simp[exitTo]
  exact⟨.exit id,i,j,g,fun u o=> .head f oO (d.1 u (by rw[s];exact o)),
   fun q o=>let⟨v,h1,h2⟩:=d.2 q (by rw[s];exact o);⟨v,h1, .head f oO h2⟩⟩
 |goto l=>exact g.elim
 |ret=>exact⟨_,i,j,g, .of_steps (.one f oO) d⟩
 |panic x=>exact⟨_,i,j,g, .of_steps (.one f oO) d⟩
 |outgrown=>exact⟨_,i,j,g, .of_steps (.one f oO) d⟩
def akD (B:FuncId->Prop)(F:Fence)(n:Nat)(P:Program)(l:Nat)(Q:Exit->Act->World->Prop)(b:Act):Ending->World->Prop
 | .returned _,d=>∃a e,(Instr.endLoop l).run P d= .ok a e/\
   (match a with
   |none=>Q .normal b e
   |some c=>wpB B F n P c Q b e)
 | .panicked chain,d=>Q (.panic chain) b d
 | .outgrown,_=>LetsOut Q
variable{assign body:Code}
def Wn {g:Operand}{ps:Array Tmp}
  (h:∀fn,F.fn fn->B fn->∃(l:Nat) (mark:List Deferred) (O:World) (d:Deferred) (q:World) (f:FuncId) (args:Array Value) (R:World),
   (Instr.enterLoop fn a.tmps ps assign body F.round).run P w= .ok (l,mark) O/\
   (resolve a.eval (rangeCall g l) 0).run P O= .ok d q/\
   (∀G,Target.leads P q d.target d.args=some G->F.fn G)/\
   (invoke d.target d.args).run P q= .ok (.enter f args) R/\
   (F.depth.isSome=true->1<=n)/\
   CallsIn F (n - 1) P f args R (akD B F n P l Q {a with defers:=mark++a.defers})):
  wpB B F n P (Code.rangeFunc g ps assign body) Q a w:=by
 intro b k cs E H U I;obtain⟨l,mark,O,d,q,f,args,R,L,r,u,D,hn,V,t⟩:=h b.fn H U;rw[<-E]at L;have T:(lone (b.atR a (.code (.rangeFunc g ps assign body)::k)) cs w).fenced P F:=by
  refine fenced_lone (.inl H) (fun G A=>u G ?_) (Fence.room_le I (by omega));have z:=Frame.eval_atR b a (.code (.rangeFunc g ps assign body)::k);simp only[Frame.atR]at z;simp only[Frame.about,Frame.atR,L,z,r]at A;exact A
 have j:=stepR_rangeFunc (P:=P) (b:=b) (a:=a) (k:=k) (cs:=cs) (w:=w) L r D;have o:F.room ((b.atR {a with defers:=mark++a.defers} (.inRangeFunc l::k)::cs).length+1+(n - 1)):=Fence.room_enter I hn;obtain⟨e,S,fr,K,m,C,i⟩:=t (b.atR {a with defers:=mark++a.defers} (.inRangeFunc l::k)::cs) o;cases e with
 |outgrown=>
  obtain⟨Y,w₀,N⟩:=K;exact⟨.outgrown,Y,w₀,N, .inr (Outgrown.of_steps (.one j) m)⟩
 |returned v=>
  have M:(lone fr (b.atR {a with defers:=mark++a.defers} (.inRangeFunc l::k)::cs) S).fenced P F:=fenced_leaving (C▸V) o i;obtain⟨s,X,y,W⟩:=K;have p:StepsIn (Machine.fenced P F) P (lone (b.atR a (.code (.rangeFunc g ps assign body)::k)) cs w) (lone (b.atR {a with defers:=mark++a.defers} ((s.map Item.code).toList++k)) cs X):=by
   refine .head T j (StepsIn.trans m (.head M ?_ (.one (fenced_calm (fr:=b.atR {a with defers:=mark++a.defers} (.endRangeFunc l::k)) H I rfl) (stepR_endRangeFunc y))));rw[<-finish_atR_inRangeFunc l v];exact step_leave_returned i
  cases s with
  |none=>exact⟨.normal,_,X,W,p⟩
  |some c=>
   obtain⟨Z,J,w₅,N,x⟩:=W b k cs E H U I;exact⟨Z,J,w₅,N, .of_steps p x⟩
 |panicked chain=>
  have M:(lone fr (b.atR {a with defers:=mark++a.defers} (.inRangeFunc l::k)::cs) S).fenced P F:=fenced_leaving (C▸V) o i;refine⟨.panic chain,_,S,K, .inRangeFunc l::k, .head T j (StepsIn.trans m (.one M ?_))⟩;rw[<-Frame.raise_atR];exact step_leave_panicked i
def roundEnd (P:Program)(l:Nat)(R:Ending->World->Prop):Exit->Act->World->Prop
 | .normal,_,w=>∃v w',(Instr.endRound l none).run P w= .ok v w'/\R (.returned v) w'
 | .ret,_,w=>∃v w',(Instr.endRound l (some .ret)).run P w= .ok v w'/\R (.returned v) w'
 | .exit id,_,w=>∃v w',(Instr.endRound l (some (.exit id))).run P w= .ok v w'/\R (.returned v) w'
 | .panic chain,a,w=>a.defers=[]/\R (.panicked chain) w
 | _,_,_=>False
variable{f:FuncId}{R:Ending->World->Prop}
def U5 {l:Nat}{tmps:Array Value}(H:F.fn f)(G:B f)(hf:∃fn,P.funcs[f]?=some fn)
  (h:wpB B (F.inRound l) n P assign (Exit.then (fun q E=>∃z,(Instr.beginRound l).run P E= .ok () z/\wpB B (F.inRound l) n P body (roundEnd P l R) q z) (fun _ _ _=>False))
   {tmps:=tmps,defers:=[]} w):
  RoundIn F n P l f tmps assign body w R:=by
 refine⟨H,fun c cs M=> ?_⟩
 let b:Frame:={(default:Frame)with fn:=f,kind:= .normal,roundOf:=some l}
 have A:Frame.round l f tmps assign body .normal=b.atR {tmps:=tmps,defers:=[]} [.code assign, .beginRound, .code body]:=by
  simp[Frame.round,Frame.atR,b]
 have j:(F.inRound l).room ((c::cs).length+1+n):=M;have i:(F.inRound l).fn b.fn:=H;obtain⟨e,q,E,p,d⟩:=h b [.beginRound, .code body] (c::cs) rfl i G j;rw[<-A]at d;cases e with
 |normal=>
  obtain⟨z,C,o⟩:=p;have y:StepsIn (Machine.fenced P (F.inRound l)) P (lone (b.atR q [.beginRound, .code body]) (c::cs) E) (lone (b.atR q [.code body]) (c::cs) z):=
   .one (fenced_calm (fr:=b.atR q [.beginRound, .code body]) i j rfl) (stepR_beginRound rfl C)
  obtain⟨K,x,J,k,a⟩:=o b [] (c::cs) rfl i G j;cases K with
  |normal=>
   obtain⟨v,u,g,m⟩:=k;exact⟨.returned v,u,m,(StepsIn.trans d y).trans (StepsIn.trans a (.one (fenced_calm (fr:=b.atR x []) i j rfl) (stepR_round_end rfl rfl g)))⟩
  |ret=>
   obtain⟨v,u,g,m⟩:=k;obtain⟨D,r⟩:=a.2 rfl;exact⟨.returned v,u,m,(StepsIn.trans d y).trans (StepsIn.trans r (.one (fenced_calm (fr:=b.atR x (.code .ret::D)) i j rfl) (stepR_round_ret rfl rfl g)))⟩
  |exit id=>
   obtain⟨v,u,g,m⟩:=k;obtain⟨D,L,r⟩:=a.2 rfl rfl;exact⟨.returned v,u,m,(StepsIn.trans d y).trans (StepsIn.trans r (.one (fenced_calm (fr:=b.atR x (.code (.exit id)::D)) i j rfl) (stepR_round_exit rfl rfl L g)))⟩
  |goto t=>exact k.elim
  |panic chain=>
   obtain⟨hd,m⟩:=k;obtain⟨s,r⟩:=a;have I:({b.atR x s with mode:= .panicking chain}:Frame).leaving P J (.panicked chain):=⟨rfl,hd,hf⟩
   refine⟨.panicked chain,J,m,(StepsIn.trans d y).trans (StepsIn.trans r (.one (fenced_leaving (n:=n) i j I) (step_leave_panicked I)))⟩
  |outgrown=>exact k.elim
 |exit id=>exact p.elim
 |goto t=>exact p.elim
 |ret=>exact p.elim
 |panic chain=>exact p.elim
 |outgrown=>exact p.elim
def Sj {fn:Func}{args:Array Value}
  (hf:P.funcs[f]?=some fn)(hb:fn.body=some c)(p:F.fn f)(y:B f)
  (h:wpB B F n P c (bodyPostM F n P fn R) {tmps:=args++aw (fn.ntmps - args.size) undef,defers:=[]} w)(x:F.round=none:=by rfl):CallsIn F n P f args w R:=by
 refine⟨p,fun cs u=> ?_⟩
 let b:Frame:={(default:Frame)with fn:=f,kind:= .normal,roundOf:=none}
 have k:Frame.enter P f args .normal=
   b.atR {tmps:=args++aw (fn.ntmps - args.size) undef,defers:=[]} [.code c]:=by
  simp[Frame.enter,Frame.atR,hf,hb,b]
 obtain⟨e,m,w',q,a⟩:=h b [] cs x.symm p y u;rw[<-k]at a;cases e with
 |normal=>
  obtain⟨r,j,d,s,v,g,t⟩:=leaves_stepsInM m.defers .returning w' {b.atR m []with mode:= .returning} cs rfl rfl rfl hf rfl p u q;exact⟨r,j,d,s,ComesIn.of_steps (StepsIn.trans a (.one (fenced_calm (fr:=b.atR m []) p u rfl) (stepR_end rfl))) v,g,t⟩
 |ret=>
  obtain⟨i,o⟩:=a.1 rfl;obtain⟨r,j,d,s,v,g,t⟩:=leaves_stepsInM m.defers .returning w' {b.atR m i with mode:= .returning} cs rfl rfl rfl hf rfl p u q;exact⟨r,j,d,s,ComesIn.of_steps o v,g,t⟩
 |panic chain=>
  obtain⟨i,o⟩:=a;obtain⟨r,j,d,s,v,g,t⟩:=leaves_stepsInM m.defers (.panicking chain) w' {b.atR m i with mode:= .panicking chain} cs rfl rfl rfl hf rfl p u q;exact⟨r,j,d,s,ComesIn.of_steps o v,g,t⟩
 |exit id=>exact q.elim
 |goto l=>exact q.elim
 |outgrown=>exact⟨.outgrown,w',b,q,a.resolve_left (by simp[b]),rfl,trivial⟩
end
def gJ:aA->Bool
 | .seq a b=>gJ a&&gJ b
 | .cond _ a b=>gJ a&&gJ b
 | .block _ c=>gJ c
 | .scope c=>gJ c
 | .loop _=>false
 | .um _ _ _ _ _=>false
 | _=>true
def GZ {C:Ctx}{nb na nb' na':Nat}:∀(pc:aA),gJ pc=true->∀(Q:Ex->St->Prop),pwp C nb na pc Q=pwp C nb' na' pc Q
 | .skip,_,_=>rfl
 | .region _ _ _ _ _,_,_=>rfl
 | .exit _,_,_=>rfl
 | .label _,_,_=>rfl
 | .ret,_,_=>rfl
 | .seq a b,h,Q=>by
  simp only[gJ,H]at h
  funext s
  simp only[pwp];rw[GZ (nb':=nb') (na':=na') a h.1];simp only[GZ (nb':=nb') (na':=na') b h.2]
 | .cond c a b,h,Q=>by
  simp only[gJ,H]at h
  funext s
  simp only[pwp];rw[GZ (nb':=nb') (na':=na') a h.1,GZ (nb':=nb') (na':=na') b h.2]
 | .block id c,h,Q=>by
  simp only[gJ]at h
  funext s
  simp only[pwp];rw[GZ (nb':=nb') (na':=na') c h]
 | .scope c,h,Q=>by
  simp only[gJ]at h
  funext s
  simp only[pwp];rw[GZ (nb':=nb') (na':=na') c h]
 | .loop _,h,_=>by simp[gJ]at h
 | .um _ _ _ _ _,h,_=>by simp[gJ]at h
def DR:aA->Bool
 | .seq a b=>DR a&&DR b
 | .cond _ a b=>DR a&&DR b
 | .block _ c=>DR c
 | .scope c=>DR c
 | .loop c=>DR c
 | .um _ _ _ _ _=>false
 | _=>true
def kL:∀{pc:aA},gJ pc=true->DR pc=true
 | .skip,_=>rfl
 | .region _ _ _ _ _,_=>rfl
 | .exit _,_=>rfl
 | .label _,_=>rfl
 | .ret,_=>rfl
 | .seq a b,h=>by simp only[gJ,H]at h;simp[DR,kL h.1,kL h.2]
 | .cond _ a b,h=>by simp only[gJ,H]at h;simp[DR,kL h.1,kL h.2]
 | .block _ c,h=>kL (pc:=c) h
 | .scope c,h=>kL (pc:=c) h
 | .loop _,h=>by simp[gJ]at h
 | .um _ _ _ _ _,h=>by simp[gJ]at h
def F8 (t:Nat):Code->Bool
 | .seq a b=>F8 t a&&F8 t b
 | .cond _ a b=>F8 t a&&F8 t b
 | .block _ c=>F8 t c
 | .loop c=>F8 t c
 | .scope c=>F8 t c
 | .region _ ops _=>ops.all fun o=>o.dst !=some t
 | .rangeFunc _ _ _ _=>false
 | _=>true
def chk (P:Program)(n:Nat):Code->aA->Bool
 | .skip, .skip=>true
 | .region _ ops i, .region d k _ _ _=>i==d&&LQ P n ops ops.toList k&&(!d||Yv ops k)
 | .seq a b, .seq p q=>chk P n a p&&chk P n b q
 | .cond c x y, .cond e m o=>aaT c e&&chk P n x m&&chk P n y o
 | .block id c, .block g e=>id==g&&chk P n c e
 | .loop c, .loop e=>chk P n c e
 | .exit id, .exit g=>id==g
 | .scope c, .scope e=>chk P n c e
 | .label l, .label s=>l==s
 | .ret, .ret=>true
 | .rangeFunc f k x y, .um r h j m o=>aaT f r&&decide (k.toList=h)&&decide h.Nodup&&(h.all (·<n))&&(j.all (·<n))&&chk P n x m&&chk P n y o&&gJ m&&gJ o
 | _,_=>false
section
variable {C:Ctx}{X:Nat->Prop}
variable{w w':World}{O O':Nat->Prop}
def XJ.move (hk:∀b o,¬O b->w.heap[b]?=some o->w'.heap[b]?=some o/\¬O' b){A:Arr}{loc:Option (Nat×Nat×Nat)}{i off:Nat}{v:Value}(h:XJ w O A loc i off v):XJ w' O' A loc i off v:=by
 refine⟨h.1,?_⟩;cases loc with
 |none=>exact bP.mono hk h.2
 |some q=>exact h.2
def ae2.move (hk:∀b o,¬O b->w.heap[b]?=some o->w'.heap[b]?=some o/\¬O' b){A:Arr}{loc:Option (Nat×Nat×Nat)}{skip:Nat}{v:Value}(h:ae2 w O A loc skip v):ae2 w' O' A loc skip v:=by
 refine⟨h.1,?_⟩;cases loc with
 |none=>exact bP.mono hk h.2
 |some q=>exact h.2
def ae1.move (hk:∀b o,¬O b->w.heap[b]?=some o->w'.heap[b]?=some o/\¬O' b){A:Arr}{loc:Option (Nat×Nat×Nat)}{skip len:Nat}{v:Value}(h:ae1 w O A loc skip len v):ae1 w' O' A loc skip len v:=by
 refine⟨h.1,?_⟩;cases loc with
 |none=>exact bP.mono hk h.2
 |some q=>exact h.2
mutual
def Rep.move {w w':World}{O O':Nat->Prop}{M:Mem}{E:Emb}(hk:∀b o,¬O b->w.heap[b]?=some o->w'.heap[b]?=some o/\¬O' b):∀{v:Value} {p:PV},Rep w O M E v p->Rep w' O' M E v p
 | _,_, .d h=> .d (h.mono hk)
 | _,_, .ptr g f i=> .ptr g f i
 | _,_, .mref g f i=> .mref g f i
 | _,_, .oP g f i=> .oP g f i
 | _,_, .yP g f i=> .yP g f i
 | _,_, .jL a h=> .jL a fun A l=>by
   obtain⟨h1,h2⟩:=h A l;exact⟨h1,fun e=>by obtain⟨c,j,k⟩:=h2 e;exact⟨c,j,k.move hk⟩⟩
 | _,_, .tsl a h=> .tsl a fun A l=>by
   obtain⟨h1,h2⟩:=h A l;exact⟨h1,fun e=>by obtain⟨c,j,k⟩:=h2 e;exact⟨c,j,k.move hk⟩⟩
 | _,_, .psl a h=> .psl a fun A l=>by
   obtain⟨h1,h2⟩:=h A l;exact⟨h1,fun e=>by obtain⟨c,j,k⟩:=h2 e;exact⟨c,j,k.move hk⟩⟩
 | _,_, .dead=> .dead
 | _,_, .func h1 h2=> .func (aP.move hk h1) (aP.move hk h2)
 | _,_, .agg h=> .agg (aP.move hk h)
 | _,_, .tup h=> .tup (aP.move hk h)
def aP.move {w w':World}{O O':Nat->Prop}{M:Mem}{E:Emb}(hk:∀b o,¬O b->w.heap[b]?=some o->w'.heap[b]?=some o/\¬O' b):∀{v:List Value} {p:List PV},aP w O M E v p->aP w' O' M E v p
 | _,_, .nil=> .nil
 | _,_, .cons h t=> .cons (Rep.move hk h) (aP.move hk t)
end
variable{X':Nat->Prop}{w w':World}{M:Mem}{E:Emb}
def Sim.shift (h:Sim C X w M E)(d:∀b,C.low b->X' b)(hlt:∀b,X' b->b<w'.heap.size)(r:∀b,C.low b->w'.heap[b]?=w.heap[b]?)
  (hk:∀b o,¬X b->w.heap[b]?=some o->w'.heap[b]?=some o/\¬X' b):Sim C X' w' M E/\(∀b o,¬away X M E b->w.heap[b]?=some o->w'.heap[b]?=some o/\¬away X' M E b):=by
 have c:∀b o,¬away X M E b->w.heap[b]?=some o->w'.heap[b]?=some o/\¬away X' M E b:=by
  intro b o g f;obtain⟨h1,h2⟩:=hk b o (fun j=>g (.inl j)) f;exact⟨h1,fun j=>j.elim h2 fun i=>g (.inr i)⟩
 refine⟨?_,c⟩;exact
  {glob:=C.keeps w w' h.glob r,iK:=d,xlt:=hlt,iD:=h.iD,bH:=h.bH
   box:=fun b cs g=>by
    obtain⟨a,h1,h2,h3⟩:=h.box b cs g;obtain⟨o,f⟩:=h3.obj;exact⟨a,h1,(hk a o h2 f).2,h3.move (fun o f=>(hk a o h2 f).1) c fun _ _ _ s=>s.move c⟩
   arr:=fun k A p=>by
    obtain⟨h1,h2,h3,n⟩:=h.arr k A p;refine⟨h1,h2,h3,fun a o e q=> ?_⟩;obtain⟨l,vs,T,g2,g3,g4,m⟩:=n a o e q;exact⟨(hk a _ l g2).2,vs,T,(hk a _ l g2).1,g3,g4,m.mono c⟩
   bb:=h.bb,aa:=h.aa,ba:=h.ba}
def Sim.less (h:Sim C X w M E)(hx:∀b,X' b->X b)(a:∀b,C.low b->X' b):Sim C X' w M E:=
 (h.shift a (fun b c=>h.xlt b (hx b c)) (fun _ _=>rfl) fun b o c e=>⟨e,fun d=>c (hx b d)⟩).1
variable{v:Value}{p:PV}
def Rep.less (h:Rep w (away X M E) M E v p)(hx:∀b,X' b->X b):Rep w (away X' M E) M E v p:=
 h.move fun b o c d=>⟨d,fun a=>c (a.imp (hx b) id)⟩
variable{L:Loop}{st:LoopState}{pd:Option Code}
def NG {b:Nat}{st':LoopState}{pd':Option Code}{cells:List PV}(h:Sim C X w M E)(hb:M.boxes[b]?=some (some (.iq {L with state:=st,pending:=pd}::cells)))(c:b∉M.fz):
  ∃(l:Nat) (tmps:Array Value),E.bx[b]?=some l/\¬X l/\tmps.size=L.tmps.size/\w.heap[l]?=some (.loop {L with state:=st,pending:=pd,tmps:=tmps})/\aP w (away X M E) M E tmps.toList cells/\
   Sim C X (w.putObj l (.loop {L with state:=st',pending:=pd',tmps:=tmps})) {M with boxes:=M.boxes.set b (some (.iq {L with state:=st',pending:=pd'}::cells))} E/\
   From w M E (w.putObj l (.loop {L with state:=st',pending:=pd',tmps:=tmps})) {M with boxes:=M.boxes.set b (some (.iq {L with state:=st',pending:=pd'}::cells))} E:=by
 obtain⟨l,d,f,g⟩:=h.box b _ hb;obtain⟨tmps,r1,r2,r3⟩:=g;have a:=dw r2;obtain⟨i,j⟩:=NI (cs':= .iq {L with state:=st',pending:=pd'}::cells) h hb c rfl rfl d (Nq w l (.loop {L with state:=st',pending:=pd',tmps:=tmps}) a)
  fun e=>⟨tmps,r1,by simp[a],r3.from e⟩
 exact⟨l,tmps,d,f,r1,r2,r3,i,j⟩
def FT:∀(l:List (Nat×Value)) (tmps:Array Value),(l.foldl (fun t (x:Nat×Value)=>t.setIfInBounds x.1 x.2) tmps).size=tmps.size
 | [],_=>rfl
 |x::l,tmps=>by rw[a8,FT l];simp
def EJ {t:Nat}:∀(l:List (Nat×Value)) (tmps:Array Value),(∀x∈l,x.1≠t)->(l.foldl (fun t (x:Nat×Value)=>t.setIfInBounds x.1 x.2) tmps).getD t undef=tmps.getD t undef
 | [],_,_=>rfl
 |x::l,tmps,h=>by
  rw[a8,EJ l _ fun y a=>h y (by simp[a])];have:x.1≠t:=h x (by simp);simp only[S,az this]
def Xz {R:Value->PV->Prop}{aqc:List (Nat×PV)}{t:Nat}:∀(ps:List Nat) (vs:List Value) (ds:List PV) (tmps:Array Value),vs.length=ps.length->ds.length=ps.length->ps.Nodup->(∀p∈ps,p<tmps.size)->
  (∀(i:Nat) (v:Value) (d:PV),vs[i]?=some v->ds[i]?=some d->R v d)->(t∉ps->R (tmps.getD t undef) (look aqc t))->
  R (((ps.zip vs).foldl (fun t (x:Nat×Value)=>t.setIfInBounds x.1 x.2) tmps).getD t undef) (look (ps.zip ds++aqc) t)
 | [],_,_,_,_,_,_,_,_,h=>by simpa using h
 |p::ps,[],_,_,h,_,_,_,_,_=>by simp at h
 |p::ps,_::_,[],_,_,h,_,_,_,_=>by simp at h
 |p::ps,v::vs,d::ds,tmps,h1,h2,c,a,f,g=>by
  rw[List.nodup_cons]at c;simp only[List.zip_cons_cons,a8,bq,look]
  by_cases b:p=t
  ·subst b
   simp only[beq_self_eq_true,cond_true];rw[EJ _ _ fun x m e=>c.1 (by rw[<-e];exact(List.of_mem_zip m).1)];have:p<tmps.size:=a p (by simp);have e:(tmps.setIfInBounds p v).getD p undef=v:=by simp[S,this]
   rw[e];exact f 0 v d rfl rfl
  ·have:(p==t)=false:=by simp[b]
   simp only[this,cond_false];refine Xz ps vs ds _ (by simpa using h1) (by simpa using h2) c.2 (fun q j=>by simpa using a q (by simp[j])) (fun i v d l hd=>f (i+1) v d (by simpa using l) (by simpa using hd)) fun k=> ?_
   have e:(tmps.setIfInBounds p v).getD t undef=tmps.getD t undef:=by simp only[S,az b]
   rw[e];exact g (by simp[k,Ne.symm b])
variable{s:St}
def Yq {n:Nat}{keys:List Nat}(hk:keys.all (·<n)=true)(t:Nat):look (iO s.env keys) t= .dead\/(t<n/\look (iO s.env keys) t=look s.env t):=by
 induction keys with
 |nil=>exact .inl rfl
 |cons k b a=>
  simp only[bE,H,decide_eq_true_eq]at hk;simp only[iO,W,look]
  by_cases h:k=t
  ·subst h;simp[hk.1]
  ·have:(k==t)=false:=by simp[h]
   simp only[this,cond_false];exact a hk.2
def InS.from {lo:Lo}{n:Nat}{s:St}{a:Act}{w w':World}{E E':Emb}{M':Mem}(h:InS C X lo n s a w E)(b:Sim C X w' M' E')(hf:From w s.mem E w' M' E'):InS C X lo n ⟨s.env,M'⟩ a w' E':={
 sim:=b
 env:=fun t=>(h.env t).from hf
 size:=h.size
 defers:=h.defers.from h.sim hf
 fix:=h.fix}
def PL {cells:List PV}{xb:List (Option (List PV))}{xf:List Nat}{xa:List (Option Arr)}:(iE M L st pd cells xb xf xa).boxes[M.boxes.length]?=some (some (.iq {L with state:=st,pending:=pd}::cells)):=by simp[iE]
def aoT {O:Nat->Prop}{g:FuncId}{fs cs:List PV}(h:Rep w O M E v p)(hf:amk p=some (g,fs,cs)):
  ∃Fs c,v= .func (.func g) Fs c/\aP w O M E Fs.toList fs/\aP w O M E c.toList cs:=by
 unfold amk at hf
 split at hf
 ·cases hf
  have hd:=h.toD;cases hd with
  |func b a=>exact⟨_,_,rfl,aP.ofD b,aP.ofD a⟩
 ·cases hf
  cases h with
  |func b a=>exact⟨_,_,rfl,b,a⟩
 ·cases hf
def jK (hm:C.P.follows .mixedOrders=true){n:Nat}:∀(c:Code) (pc:aA) {X:Nat->Prop} {w₀:World} {M₀:Mem} {E₀:Emb} {nb na:Nat} (_:M₀.boxes.length<=nb) (_:M₀.aB.length<=na) (B:FuncId->Prop) (_:(∀g,B g->∃fn,C.P.funcs[g]?=some fn)\/DR pc=true) (ro:Option Nat) (j:List Deferred) (ex:Bool) (fx:Option (Nat×Value)) (Q:Ex->St->Prop) (s:St) (a:Act) (w:World) (E:Emb),
  (∀q,fx=some q->F8 q.1 c=true)->(ro=none\/gJ pc=true)->(ex=true->gJ pc=true)->chk C.P n c pc=true->pwp C nb na pc Q s->InS C X ⟨w₀.heap.size,j,ex,fx⟩ n s a w E->From w₀ M₀ E₀ w s.mem E->wpB B (RF ro) 0 C.P c (Post C X n w₀ M₀ E₀ j ex fx Q) a w
 | .skip,pc,X,w₀,M₀,E₀,nb,na,J,ha,B,hB,ro,j,ex,fx,Q,s,a,w,E,N,A,z,T,h,O,Y=>by
  cases pc<;>simp only[chk,U]at T
  exact Ht (wpIn_skip ⟨X,s,E,fun _ h=>h,h,O,Y⟩)
 | .label l,pc,X,w₀,M₀,E₀,nb,na,J,ha,B,hB,ro,j,ex,fx,Q,s,a,w,E,N,A,z,T,h,O,Y=>by
  cases pc<;>simp only[chk,U]at T
  exact Ht (wpIn_label ⟨X,s,E,fun _ h=>h,h,O,Y⟩)
 | .exit id,pc,X,w₀,M₀,E₀,nb,na,J,ha,B,hB,ro,j,ex,fx,Q,s,a,w,E,N,A,z,T,h,O,Y=>by
  cases pc<;>simp only[chk,U,beq_iff_eq]at T
  subst T;exact Ht (wpIn_exit ⟨X,s,E,fun _ h=>h,h,O,Y⟩)
 | .ret,pc,X,w₀,M₀,E₀,nb,na,J,ha,B,hB,ro,j,ex,fx,Q,s,a,w,E,N,A,z,T,h,O,Y=>by
  cases pc<;>simp only[chk,U]at T
  exact Ht (wpIn_ret ⟨X,s,E,fun _ h=>h,h,O,Y⟩)
 | .region id ops b1,pc,X,w₀,M₀,E₀,nb,na,J,ha,B,hB,ro,j,ex,fx,Q,s,a,w,E,N,A,z,T,h,O,Y=>by
  cases pc<;>simp only[chk,U]at T
  rename_i d ps ad3 keep fz
  simp only[H,beq_iff_eq]at T;obtain⟨⟨rfl,cc⟩,cz⟩:=T;simp only[pwp]at h;obtain⟨i1,f1⟩:=O.reserve ad3;have hK:∀s' a' w' E',(fun s':St=>tH fz (Q .normal) ⟨iO s'.env keep,s'.mem⟩) s'->InS C X ⟨w₀.heap.size,j,ex,fx⟩ n s' a' w' E'->From w₀ M₀ E₀ w' s'.mem E'->Post C X n w₀ M₀ E₀ j ex fx Q .normal a' w':=by
   intro s' a' w' E' hk cE cA;obtain⟨s2,g1,g2,g3⟩:=PE hk cE.keep;exact⟨X,s2,E',fun _ h=>h,g1,g2,cA.trans g3⟩
  have b6:∀d M' a' w' E' v,(fun d M=>Q (.panic d) ⟨[],M⟩) d M'->Sim C X w' M' E'->From w₀ M₀ E₀ w' M' E'->bP w' (away X M' E') v d->okD ⟨w₀.heap.size,j,ex,fx⟩ X a'.defers w'->(∀q,fx=some q->a'.eval (.tmp q.1)=q.2)->Post C X n w₀ M₀ E₀ j ex fx Q (.panic [{v,recovered:=false}]) a' w':=by
   intro d M' a' w' E' v h1 h2 h3 h4 h5 h6;exact⟨X,v,d,M',E',fun _ h=>h,rfl,h1,h2,h3,h4,h5,h6⟩
  have cb:∀q,(⟨w₀.heap.size,j,ex,fx⟩:Lo).fx=some q->∀o∈ops,o.dst≠some q.1:=fun q hq o ho=>by
   have:=N q hq;simp only[F8,Array.all_eq_true']at this
   simpa using this o ho
  cases b1 with
  |false=>exact Ht (wpIn_region (Zt cb cc i1 (Y.trans f1) h hK b6))
  |true=>
   refine Ht (ac7 cb hm cc (by simpa using cz) ?_ i1 (Y.trans f1) h hK b6);intro s1 s2 he bc hk;have:iO s1.env keep=iO s2.env keep:=by simp only[iO,he]
   simp only[this,bc]at hk;exact hk
 | .seq x y,pc,X,w₀,M₀,E₀,nb,na,J,ha,B,hB,ro,j,ex,fx,Q,s,a,w,E,N,A,z,T,h,O,Y=>by
  cases pc<;>simp only[chk,U,H]at T
  simp only[gJ,H]at A z;simp only[pwp]at h;refine anW (xq (jK hm x _ J ha B (hB.imp id fun e=>(Z.1 e).1) ro j ex fx _ s a w E (fun q hq=>(Z.1 (N q hq)).1) (A.imp id And.left) (fun e=>(z e).1) T.1 h O Y) fun e a' w' V=> ?_);cases e with
  |normal=>
   obtain⟨X',s',E',hx,h1,h2,h3⟩:=V;exact xq (jK hm y _ J ha B (hB.imp id fun e=>(Z.1 e).2) ro j ex fx Q s' a' w' E' (fun q hq=>(Z.1 (N q hq)).2) (A.imp id b0) (fun e=>(z e).2) T.2 h1 h2 h3) fun e a w V=>V.up hx
  |exit id=>exact V
  |ret=>exact V
  |panic ch=>exact V
  |goto l=>exact V.elim
  |outgrown=>exact V.elim
 | .cond c x y,pc,X,w₀,M₀,E₀,nb,na,J,ha,B,hB,ro,j,ex,fx,Q,s,a,w,E,N,A,z,T,h,O,Y=>by
  cases pc<;>simp only[chk,U,H]at T
  simp only[gJ,H]at A z;obtain⟨⟨T,hx⟩,hy⟩:=T;simp only[pwp]at h
  split at h
  ·rename_i t ht
   have hv:=Zp O T;rw[ht]at hv;refine VA hv.toD.nH (fun e=> ?_) (fun e=> ?_)
   ·exact jK hm x _ J ha B (hB.imp id fun e=>(Z.1 e).1) ro j ex fx Q s a w E (fun q hq=>(Z.1 (N q hq)).1) (A.imp id And.left) (fun e=>(z e).1) hx (h.1 e) O Y
   ·exact jK hm y _ J ha B (hB.imp id fun e=>(Z.1 e).2) ro j ex fx Q s a w E (fun q hq=>(Z.1 (N q hq)).2) (A.imp id b0) (fun e=>(z e).2) hy (h.2 e) O Y
  ·exact h.elim
 | .block id c,pc,X,w₀,M₀,E₀,nb,na,J,ha,B,hB,ro,j,ex,fx,Q,s,a,w,E,N,A,z,T,h,O,Y=>by
  cases pc<;>simp only[chk,U,H,beq_iff_eq]at T
  simp only[gJ]at A z;obtain⟨rfl,T⟩:=T;simp only[pwp]at h;refine ah8 (xq (jK hm c _ J ha B (by simp only[DR]at hB;exact hB) ro j ex fx _ s a w E N A z T h O Y) fun e a' w' V=> ?_);cases e with
  |normal=>exact V
  |exit cV=>
   obtain⟨X',s',E',hx,h1,h2,h3⟩:=V;simp only[Exit.inBlock];simp only at h1
   split at h1
   ·rename_i hid;rw[if_pos hid];exact⟨X',s',E',hx,h1,h2,h3⟩
   ·rename_i hid;rw[if_neg hid];exact⟨X',s',E',hx,h1,h2,h3⟩
  |ret=>exact V
  |panic ch=>exact V
  |goto l=>exact V.elim
  |outgrown=>exact V.elim
 | .loop c,pc,X,w₀,M₀,E₀,nb,na,J,ha,B,hB,ro,j,ex,fx,Q,s,a,w,E,N,A,z,T,h,O,Y=>by
  cases pc<;>simp only[chk,U]at T
  simp only[gJ,U,or_false]at A z;simp only[pwp]at h;obtain⟨I,k,h0,hr⟩:=h;refine alC (fun k a w=>∃(X':Nat->Prop) (s:St) (E:Emb),(∀b,X b->X' b)/\I k s/\InS C X' ⟨w₀.heap.size,j,ex,fx⟩ n s a w E/\From w₀ M₀ E₀ w s.mem E) k ⟨X,s,E,fun _ h=>h,h0,O,Y⟩ ?_;rintro k' a' w' ⟨X',s',E',hx,g1,g2,g3⟩;refine xq (jK hm c _ J ha B (by simp only[DR]at hB;exact hB) ro j ex fx _ s' a' w' E' N (.inl A) (fun e=>(z e).elim) T (hr k' s' g1) g2 g3) fun e a2 w2 V=> ?_
  cases e with
  |normal=>
   obtain⟨X2,s2,E2,cR,⟨k2,s3,q1,q2,q3⟩,h2,h3⟩:=V;obtain⟨E3,r1,r2⟩:=aeW h2 h3 J ha q2;exact⟨k2,q1,X2,s3,E3,fun b J=>cR b (hx b J),q3,r1,r2⟩
  |exit id=>obtain⟨X2,s2,E2,q1,q2⟩:=V;exact⟨X2,s2,E2,fun b J=>q1 b (hx b J),q2⟩
  |ret=>obtain⟨X2,s2,E2,q1,q2⟩:=V;exact⟨X2,s2,E2,fun b J=>q1 b (hx b J),q2⟩
  |panic ch=>obtain⟨X2,v2,d2,M2,E2,q1,q2⟩:=V;exact⟨X2,v2,d2,M2,E2,fun b J=>q1 b (hx b J),q2⟩
  |goto l=>exact V.elim
  |outgrown=>exact V.elim
 | .scope c,pc,X,w₀,M₀,E₀,nb,na,J,ha,B,hB,ro,j,ex,fx,Q,s,a,w,E,N,A,z,T,h,O,Y=>by
  cases pc<;>simp only[chk,U]at T
  simp only[gJ]at A z;simp only[pwp]at h;refine ah9 (xq (jK hm c _ J ha B (by simp only[DR]at hB;exact hB) ro j ex fx Q s a w E N A z T h O Y) fun e a' w' V=> ?_);cases e with
  |goto l=>exact V.elim
  | _=>exact V
 | .goto l,pc,X,w₀,M₀,E₀,nb,na,J,ha,B,hB,ro,j,ex,fx,Q,s,a,w,E,N,A,z,T,h,O,Y=>by cases pc<;>simp[chk]at T
 | .refuse r,pc,X,w₀,M₀,E₀,nb,na,J,ha,B,hB,ro,j,ex,fx,Q,s,a,w,E,N,A,z,T,h,O,Y=>by cases pc<;>simp[chk]at T
 | .rangeFunc f ps x y,pc,X,w₀,M₀,E₀,nb,na,J,ha,B,hB,ro,j,ex,fx,Q,s,a,w,E,N,A,z,T,h,O,Y=>by
  cases pc<;>simp only[chk,U,H,decide_eq_true_eq]at T
  rename_i f' cW bs x' y'
  simp only[gJ,U,or_false]at A z;subst A;obtain⟨⟨⟨⟨⟨⟨⟨⟨ct,rfl⟩,N⟩,cK⟩,cH⟩,cv⟩,cw⟩,bR⟩,bS⟩:=T;simp only[pwp]at h;obtain⟨g,fs,cs,cD,bw,FX,h⟩:=h;obtain⟨Fs,Cs,aqB,cC,cB⟩:=aoT (Zp O ct) cD
  ·
   obtain⟨D,hD⟩:∃D,D=w.heap.size:=⟨_,rfl⟩
   obtain⟨w1,bo⟩:∃w1,w1=w.alloc (.deferred (some [])):=⟨_,rfl⟩
   have b3:∀g,B g->∃fn,C.P.funcs[g]?=some fn:=hB.resolve_right (by simp[DR])
   refine Wn ?_;intro fn _ b4;obtain⟨L,hL⟩:∃L:Loop,L={state:= .ready,pending:=none,fn:=fn,tmps:=a.tmps,params:=ps,assign:=x,body:=y,defers:=D}:=⟨_,rfl⟩
   have bu:L.tmps=a.tmps:=by rw[hL]
   have bX:L.tmps.size=n:=by rw[bu,O.size]
   obtain⟨cells,ai⟩:∃cells,cells=(bp L.tmps.size).map (look s.env):=⟨_,rfl⟩
   have h:=h L (by rw[hL]);rw[<-ai]at h;obtain⟨lp,bL⟩:∃lp,lp=w.heap.size+1:=⟨_,rfl⟩
   have bj:Later w w1:=bo▸Later.alloc w _;have ce:w1.heap.size=w.heap.size+1:=by rw[bo];simp
   have aqn:w1.heap[D]?=some (.deferred (some [])):=by rw[bo,hD];exact heap_alloc_new w _
   obtain⟨X',a3⟩:∃X':Nat->Prop,X'=fun b=>X b\/b=D:=⟨_,rfl⟩
   have a0:∀b,X b->X' b:=fun b J=>by rw[a3];exact .inl J
   have cG:∀b o,¬X b->w.heap[b]?=some o->w1.heap[b]?=some o/\¬X' b:=by
    intro b o J ho;refine⟨bj.jB ho,?_⟩;rw[a3];rintro(hx|rfl)
    ·exact J hx
    ·have:=dw ho;omega
   obtain⟨b8,bB⟩:=O.sim.shift (X':=X') (w':=w1) (fun b J=>a0 b (O.sim.iK b J)) (fun b J=>by
     rw[a3]at J
     rcases J with J|rfl
     ·have:=O.sim.xlt b J;omega
     ·omega) (fun b J=>bj.keep b (O.sim.xlt b (O.sim.iK b J))) cG
   have aM:InS C X' ⟨w₀.heap.size,j,ex,fx⟩ n s a w1 E:=
    {sim:=b8,env:=fun t=>(O.env t).move bB,size:=O.size,fix:=O.fix
     defers:=by
      obtain⟨ms,hms,⟨a8,a9⟩,bl⟩:=O.defers;exact⟨ms,hms,⟨fun d hd=>by
       obtain⟨D',q1,q2,q3,q4⟩:=a8 d hd;exact⟨D',q1,q2,a0 _ q3,bj.jB q4⟩,a9⟩,bl⟩}
   obtain⟨cn,bz⟩:=QF b8 1;have bE:E.bx.length=s.mem.boxes.length:=O.sim.iD;obtain⟨cp,ca⟩:=Zg (o:= .loop L) (id:=s.mem.boxes.length) (cs:= .iq {L with state:= .ready,pending:=none}::cells) cn (by simp) (fun arM=>by
    refine⟨a.tmps,by rw[bu],?_,?_⟩
    ·rw[heap_alloc_new];rw[hL]
    ·have:aP w1 (away X' s.mem E) s.mem E a.tmps.toList cells:=by
      rw[ai,bu];have cT:∀(m:Nat) (l:List Value),(∀i v,l[i]?=some v->a.tmps[m+i]?=some v)->aP w1 (away X' s.mem E) s.mem E l ((bh m l.length).map (look s.env)):=by
       intro m l
       induction l generalizing m with
       |nil=>intro _;exact .nil
       |cons v l ih=>
        intro hv;rw[br,a6,W];refine .cons ?_ (ih (m+1) fun i u hu=>by
         have:=hv (i+1) u (by simpa using hu);rw[<-this];congr 1;omega)
        have h0:=aM.env m;have h1:=hv 0 v rfl;simp only[Nat.add_zero]at h1
        simpa[Act.eval,S,h1]using h0
      have:=cT 0 a.tmps.toList (fun i v hv=>by simpa using hv)
      simpa[bk]using this
     exact(this.from bz).from arM)
   have cP:(w1.alloc (.loop L)).heap[lp]?=some (.loop L):=by
    have:=heap_alloc_new w1 (.loop L)
    rwa [ce,<-bL]at this
   have e1:({boxes:=(s.mem.boxes++av 1 none).set s.mem.boxes.length (some (.iq {L with state:= .ready,pending:=none}::cells)),fz:=s.mem.fz,aB:=s.mem.aB}:Mem)=iE s.mem L .ready none cells [] [] []:=by
    simp[iE]
   obtain⟨E1,be⟩:∃E1:Emb,E1={bx:=(E.bx++av 1 0).set s.mem.boxes.length w1.heap.size,ar:=E.ar}:=⟨_,rfl⟩
   obtain⟨w2,ajE⟩:∃w2,w2=w1.alloc (.loop L):=⟨_,rfl⟩
   have cq:Sim C X' w2 (iE s.mem L .ready none cells [] [] []) E1:=by rw[<-e1,be,ajE];exact cp
   have b5:From w s.mem E w2 (iE s.mem L .ready none cells [] [] []) E1:=by
    rw[<-e1,be,ajE];exact((bj.from s.mem E).trans bz).trans ca
   have ady:From w1 s.mem E w2 (iE s.mem L .ready none cells [] [] []) E1:=by
    rw[<-e1,be,ajE];exact bz.trans ca
   have b9:E1.bx[s.mem.boxes.length]?=some lp:=by
    rw[be,bL,ce];simp[bE]
   rw[<-ajE]at cP;have lK:∀(args:List DV) (K:PV->Mem->Prop) (KP:DV->Mem->Prop) (My:Mem),args.length=ps.toList.length->My.boxes[s.mem.boxes.length]?=some (some (.iq {L with state:= .ready,pending:=none}::cells))->s.mem.boxes.length∉My.fz->
     pwp C nb na x' (fun e s1=>e= .normal/\s1.mem=My/\pwp C nb na y' (akK s.mem.boxes.length L K KP) ⟨s1.env,{My with boxes:=My.boxes.set s.mem.boxes.length (some (.iq {L with state:= .busy,pending:=none}::cells))}⟩)
      ⟨ps.toList.zip (args.map .d)++iO s.env bs,My⟩->
     SY C s.mem.boxes.length (args.map .d) My K KP:=by
    intro args K KP My bq aE aqC V Xy wy Ey ax l bi b2 bN;obtain⟨l',ae,q1,q2,q3,q4,q5,_,_⟩:=NG (st':= .busy) (pd':=none) bi aE aqC;rw[bN]at q1;cases q1;have b7:L.params=ps:=by rw[hL]
    have cm:L.fn=fn:=by rw[hL]
    have ck:L.assign=x:=by rw[hL]
    have cl:L.body=y:=by rw[hL]
    have cf:ax.length=ps.toList.length:=by rw[b2.length,List.length_map,bq]
    have hy:=run_yield (P:=C.P) (args:=ax.toArray) q4 (by simp only[b7];simpa using cf);simp only[cm]at hy;refine⟨_,_,_,_,hy,U5 (F:=Fence.wide) (n:=0) (B:=B) trivial b4 (b3 _ b4) ?_⟩;simp only[b7,ck,cl];have a7:((ps.zip ax.toArray).foldl (fun ae (x:Nat×Value)=>ae.setIfInBounds x.1 x.2) ae)=((ps.toList.zip ax).foldl (fun t (x:Nat×Value)=>t.setIfInBounds x.1 x.2) ae):=by
     rw[<-Array.foldl_toList];simp
    have cF:InS C Xy ⟨wy.heap.size,[],true,none⟩ n ⟨ps.toList.zip (args.map .d)++iO s.env bs,My⟩
      {tmps:=(ps.zip ax.toArray).foldl (fun ae (x:Nat×Value)=>ae.setIfInBounds x.1 x.2) ae,defers:=[]} wy Ey:=
     {sim:=bi
      size:=by simp only[a7,FT,q3,bX]
      fix:=fun _ h=>by cases h
      defers:=DU
      env:=fun t=>by
       simp only[Act.eval,a7];refine Xz (R:=fun v p=>Rep wy (away Xy My Ey) My Ey v p) _ _ _ _ cf (by simpa using bq) N (fun p V=> ?_) (fun i v d hv hd=> ?_) fun _=> ?_
       ·have:=aD.1 cK p V
        rw[q3,bX];simpa using this
       ·obtain⟨v',g1,g2⟩:=b2.get' i d hd
        rw[hv]at g1;cases g1;exact g2
       ·rcases Yq (s:=s) cH t with he|⟨ht,he⟩
        ·rw[he];exact .dead
        ·rw[he]
         have T:cells[t]?=some (look s.env t):=by rw[ai];simp[bX,ht]
         obtain⟨v',g1,g2⟩:=q5.get' t _ T;have:ae.getD t undef=v':=by
          rw[aq]at g1;simp[S,g1]
         rw[this];exact g2}
    have aql:∀{pc:aA},(∀g,B g->∃fn,C.P.funcs[g]?=some fn)\/DR pc=true:= .inl b3
    have cQ:=jK hm x x' (M₀:=My) (nb:=My.boxes.length) (na:=My.aB.length) (ap _) (ap _) B aql (some l) [] true none _ _ _ wy Ey (fun _ h=>by cases h) (.inr bR) (fun _=>bR) cv (by rw[GZ (nb':=nb) (na':=na) x' bR];exact V) cF (.refl _ _ _);refine xq (F:=Fence.wide.inRound l) cQ fun e a1 w3 ab=> ?_
    cases e with
    |exit id=>obtain⟨_,_,_,_,⟨he,_⟩,_⟩:=ab;cases he
    |ret=>obtain⟨_,_,_,_,⟨he,_⟩,_⟩:=ab;cases he
    |panic ch=>obtain⟨_,_,_,_,_,_,_,⟨he,_⟩,_⟩:=ab;cases he
    |goto t=>exact ab.elim
    |outgrown=>exact ab.elim
    |normal=>
     obtain⟨X3,⟨arp,cU⟩,E3,cg,⟨_,bl,cJ⟩,bA,apf⟩:=ab;simp only at bl;rw[bl]at bA apf;obtain⟨l3,arh,u1,u2,u3,u4,u5,u6,u7⟩:=NG (st':= .busy) (pd':=none) bA.sim aE aqC;rw[(apf.bx _ _ aE).1,bN]at u1;cases u1;have cr:=run_beginRound (P:=C.P) u4 rfl;refine⟨_,cr,?_⟩;have an:InS C X3 ⟨wy.heap.size,[],true,none⟩ n ⟨arp,{My with boxes:=My.boxes.set s.mem.boxes.length (some (.iq {L with state:= .busy,pending:=none}::cells))}⟩ a1 _ E3:=bA.from u6 u7
     have cS:=jK hm y y' (M₀:=My) (nb:=My.boxes.length) (na:=My.aB.length) (ap _) (ap _) B aql (some l) [] true none _ _ _ _ E3 (fun _ h=>by cases h) (.inr bS) (fun _=>bS) cw (by rw[GZ (nb':=nb) (na':=na) y' bS];exact cJ) an (apf.trans u7);refine xq (F:=Fence.wide.inRound l) cS fun e2 a5 w5 Oc=> ?_
     have bt:∀{e:Exit} {e':Ex} (ac:Option Code) (X5:Nat->Prop) (s5:St) (E5:Emb) (st:LoopState),(∀b,X3 b->X5 b)->st=(if ac.isNone then LoopState.ready else .done)->
       (∃G,s5.mem.boxes[s.mem.boxes.length]?=some (some (.iq {L with state:= .busy,pending:=none}::G))/\s.mem.boxes.length∉s5.mem.fz/\
        K (.d (.bool ac.isNone)) {s5.mem with boxes:=s5.mem.boxes.set s.mem.boxes.length (some (.iq {L with state:=st,pending:=ac}::G))})->
       InS C X5 ⟨wy.heap.size,[],true,none⟩ n s5 a5 w5 E5->From wy My Ey w5 s5.mem E5->
       ∃v w',(Instr.endRound l ac).run C.P w5= .ok v w'/\Fin C Xy wy My Ey K KP w' (.returned v):=by
      rintro e e' ac X5 s5 E5 st ao cN ⟨G,v1,v2,v3⟩ az aw;subst cN;obtain⟨l5,asM,t1,t2,t3,t4,t5,t6,t7⟩:=NG (st':=if ac.isNone then LoopState.ready else .done) (pd':=ac) az.sim v1 v2;rw[(aw.bx _ _ aE).1,bN]at t1;cases t1;refine⟨_,_,run_endRound ac t4,?_⟩;refine⟨_,_,E5,v3,?_,?_, .d (.bool _)⟩
      ·exact t6.less (X':=Xy) (fun b J=>ao b (cg b J)) bi.iK
      ·exact aw.trans t7
     cases e2 with
     |normal=>
      obtain⟨X5,s5,E5,ao,⟨G,v1,v2,v3⟩,az,aw⟩:=Oc;exact bt (e:= .normal) (e':= .normal) none X5 s5 E5 .ready ao rfl ⟨G,v1,v2,v3⟩ az aw
     |ret=>
      obtain⟨X5,s5,E5,ao,⟨G,v1,v2,v3⟩,az,aw⟩:=Oc;exact bt (e:= .normal) (e':= .normal) (some .ret) X5 s5 E5 .done ao rfl ⟨G,v1,v2,v3⟩ az aw
     |exit id=>
      obtain⟨X5,s5,E5,ao,⟨G,v1,v2,v3⟩,az,aw⟩:=Oc;exact bt (e:= .normal) (e':= .normal) (some (.exit id)) X5 s5 E5 .done ao rfl ⟨G,v1,v2,v3⟩ az aw
     |panic ch=>
      obtain⟨X5,v5,d5,M5,E5,ao,rfl,h1,h2,h3,h4,⟨ms,hms,_,cI⟩,_⟩:=Oc;have aqT:∀b,Xy b->X5 b:=fun b J=>ao b (cg b J)
      exact⟨by rw[hms,cI rfl];rfl,v5,d5,M5,E5,rfl,h1,h2.less aqT bi.iK,h3,h4.weaken fun b J=>J.imp (aqT b) id⟩
     |goto t=>exact Oc.elim
     |outgrown=>exact Oc.elim
   have cM:=h lK;have hA:aP w2 (away X' (iE s.mem L .ready none cells [] [] []) E1) (iE s.mem L .ready none cells [] [] []) E1 (Fs.toList++ [.func (.yield lp) #[] #[]]++Cs.toList) (fs++ [.oP s.mem.boxes.length]++cs):=
    (((cC.move bB).from ady).append (.cons (.oP PL b9 rfl) .nil)).append ((cB.move bB).from ady)
   have ajx:=cM X' w2 E1 _ cq hA;refine⟨lp,[{target:= .collected D,args:= #[]}],w2,{target:= .fn (.func g) Cs,args:=Fs++ #[.func (.yield lp) #[] #[]]},w2,g,Fs++ #[.func (.yield lp) #[] #[]]++Cs,w2,?_,?_,fun _ _=>trivial,?_,fun h=>by simp[RF,Fence.wide]at h,?_⟩
   ·have:=run_enterLoop_outer (P:=C.P) (w:=w) fn a.tmps ps x y
    rw[ajE,bo,hL,bL,hD];exact this
   ·simp only[resolve,aqB]
    simp[go_sem,Deferred.ofValue,Act.eval]
   ·simp[invoke,uF bw]
   have bv:(Fs.toList++ [Value.func (.yield lp) #[] #[]]++Cs.toList).toArray=Fs++ #[Value.func (.yield lp) #[] #[]]++Cs:=by simp
   rw[bv]at ajx;refine Si (Calls.mono ajx fun e w3 a4=> ?_);cases e with
   |outgrown=>exact a4.elim
   |panicked chain=>
    obtain⟨v,d,M3,E3,rfl,hq,ao1,ag1,cL⟩:=a4;have aL:=b5.trans ag1;refine⟨X',v,d,M3,E3,a0,rfl,hq,ao1,Y.trans aL,cL,?_,O.fix⟩;obtain⟨ms,hms,⟨a8,a9⟩,_⟩:=O.defers;obtain⟨bd,apn,hold,_⟩:=aM.defers.from aM.sim (ady.trans ag1)
    have bc:bd=ms:=by simpa using apn.symm.trans hms
    subst bc;refine⟨_::bd,by rw[hms];rfl,⟨fun d hd=> ?_,?_⟩,fun e=>(z e).elim⟩
    ·rcases aR.1 hd with rfl|hd
     ·refine⟨D,rfl,by rw[hD];exact Y.size,by rw[a3];exact .inr rfl,?_⟩
      have bO:¬owned s.mem E D:=fun ho=>by have:=O.sim.Um ho;omega
      exact(ady.trans ag1).keep D _ bO aqn
     ·exact hold.1 d hd
    ·refine am.2 ⟨fun d hd he=> ?_,a9⟩
     obtain⟨D',g1,g2,g3,g4⟩:=a8 d hd;rw[g1]at he
     injection he with he
     have:=dw g4;omega
   |returned v=>
    obtain⟨p,M3,E3,⟨st,pd,cj,v1,v2,v3,v4⟩,ao1,ag1,_⟩:=a4;obtain⟨l3,arh,u1,u2,u3,u4,u5,u6,u7⟩:=NG (st':= .exhausted) (pd':=pd) ao1 v1 v3;rw[(ag1.bx _ _ PL).1,b9]at u1;cases u1;refine⟨pd,_,run_endLoop u4 v2,?_⟩;have aL:=(ag1.trans u7)
    have an:InS C X' ⟨w₀.heap.size,j,ex,fx⟩ n ⟨s.env,_⟩ {a with defers:=[{target:= .collected D,args:= #[]}]++a.defers} _ E3:=
     {sim:=u6
      env:=fun t=>(aM.env t).from (ady.trans aL)
      size:=O.size
      fix:=O.fix
      defers:=by
       obtain⟨ms,hms,⟨a8,a9⟩,_⟩:=O.defers;obtain⟨bd,apn,hold,_⟩:=aM.defers.from aM.sim (ady.trans aL)
       have bc:bd=ms:=by simpa using apn.symm.trans hms
       subst bc;refine⟨_::bd,by rw[hms];rfl,⟨fun d hd=> ?_,?_⟩,fun e=>(z e).elim⟩
       ·rcases aR.1 hd with rfl|hd
        ·refine⟨D,rfl,by rw[hD];exact Y.size,by rw[a3];exact .inr rfl,?_⟩
         have bO:¬owned s.mem E D:=fun ho=>by have:=O.sim.Um ho;omega
         exact(ady.trans aL).keep D _ bO aqn
        ·exact hold.1 d hd
       ·refine am.2 ⟨fun d hd he=> ?_,a9⟩
        obtain⟨D',g1,g2,g3,g4⟩:=a8 d hd;rw[g1]at he
        injection he with he
        have:=dw g4;omega}
    have adz:=(Y.trans b5).trans aL
    match pd,v4,an,adz with
    |none,v4,an,adz=>exact⟨X',_,E3,a0,v4,an,adz⟩
    |some .ret,v4,an,adz=>exact Ht<|wpIn_ret ⟨X',_,E3,a0,v4,an,adz⟩
    |some (.exit id),v4,an,adz=>exact Ht<|wpIn_exit ⟨X',_,E3,a0,v4,an,adz⟩
def AQ (j:C.P.follows .mixedOrders=true){n:Nat}(c:Code)(pc:aA){X:Nat->Prop}{w₀:World}{M₀:Mem}{E₀:Emb}{nb na:Nat}(hb:M₀.boxes.length<=nb)(i:M₀.aB.length<=na)(k:DR pc=true)(ro:Option Nat)(b:List Deferred)(ex:Bool)(fx:Option (Nat×Value))(Q:Ex->St->Prop)(s:St)(a:Act)(w:World)(E:Emb)
  (h1:∀q,fx=some q->F8 q.1 c=true)(h2:ro=none\/gJ pc=true)(d:ex=true->gJ pc=true)(e:chk C.P n c pc=true)(f:pwp C nb na pc Q s)(g:InS C X ⟨w₀.heap.size,b,ex,fx⟩ n s a w E)(h:From w₀ M₀ E₀ w s.mem E):c.wpIn (RF ro) 0 C.P (Post C X n w₀ M₀ E₀ b ex fx Q) a w:=
 anV (jK j c pc hb i (fun _=>True) (.inr k) ro b ex fx Q s a w E h1 h2 d e f g h)
inductive jF where
 |tmp (t:Nat)
 |cell (t:Nat) (agg:Bool) (n:Nat)
def PS (P:Program):List ResultVar->List jF->Bool
 | [],[]=>true
 | .tmp t::l, .tmp b::a=>t==b&&PS P l a
 | .cell t ty::l, .cell b agg n::a=>t==b&&wM P ty agg n&&PS P l a
 | _,_=>false
def oh:List jF->St->(List PV->Prop)->Prop
 | [],_,K=>K []
 | .tmp t::l,s,K=>oh l s fun a=>K (look s.env t::a)
 | .cell t agg n::l,s,K=>bZ agg n (look s.env t) s.mem fun v=>oh l s fun a=>K (v::a)
def resV:List PV->PV
 | [x]=>x
 |a=>LK a
def XT {P:Program}{t:TypeId}{u:Value}(h:(Instr.loadAt t v).run P w= .ok u w):(do loadVar t (<-asAddr v):Sem Value).run P w= .ok u w:=by
 cases v with
 |pointer a=>
  cases a with
  |none=>simp[Instr.loadAt,Instr.sureAddr]at h
  |some a=>simpa[Instr.loadAt,Instr.sureAddr,asAddr]using h
 | _=>simp[Instr.loadAt,Instr.sureAddr]at h
def ani (tmps:Array Value):ResultVar->Sem Value
 | .tmp t=>pure (tmps.getD t undef)
 | .cell x t=>do loadVar t (<-asAddr (tmps.getD x undef))
def U2 (fn:Func)(tmps:Array Value):results fn tmps=(do let vs<-fn.results.mapM (ani tmps);pure (if h:vs.size=1 then vs[0]else .tuple vs)):=rfl
def OT {lo:Lo}{n:Nat}{s:St}{a:Act}{w:World}{E:Emb}(hi:InS C X lo n s a w E):∀{l:List ResultVar} {d:List jF} {K:List PV->Prop},PS C.P l d=true->oh d s K->
  ∃vs ps,(l.mapM (ani a.tmps):Sem (List Value)).run C.P w= .ok vs w/\K ps/\aP w (away X s.mem E) s.mem E vs ps
 | [],[],K,_,h=>⟨[],[],by simp,h, .nil⟩
 | .tmp t::l, .tmp k::d,K,b,h=>by
  simp only[PS,H,beq_iff_eq]at b;obtain⟨rfl,b⟩:=b;obtain⟨vs,ps,h1,h2,e⟩:=OT hi b h;refine⟨a.tmps.getD t undef::vs,_,?_,h2, .cons (hi.env t) e⟩;simp only[bA,ani,Sem.run_bind,Sem.run_pure,Result.andThen_ok,h1]
 | .cell x t::l, .cell o agg m::d,K,b,h=>by
  simp only[PS,H,beq_iff_eq]at b;obtain⟨⟨rfl,f⟩,b⟩:=b;simp only[oh]at h;obtain⟨u,pv,g,i,j⟩:=Jt hi.sim (hi.env x) f h;have c:=XT g;obtain⟨vs,ps,h1,h2,e⟩:=OT hi b i;refine⟨u::vs,_,?_,h2, .cons j e⟩;simp only[bA];rw[Sem.run_bind];simp only[Act.eval]at c;rw[show ani a.tmps (.cell x t)=(do loadVar t (<-asAddr (a.tmps.getD x undef))) from rfl,c];simp only[Result.andThen_ok,Sem.run_bind,h1,Sem.run_pure]
def Rep.LK {w:World}{O:Nat->Prop}{M:Mem}{E:Emb}{vs:List Value}{ps:List PV}(h:aP w O M E vs ps):Rep w O M E (.tuple vs.toArray) (LK ps):=by
 unfold Am.LK
 split
 ·rename_i ds hd;exact .d (.tup (by simpa using h.iZ hd))
 ·exact .tup (by simpa using h)
def Js {lo:Lo}{n:Nat}{a:Act}(hi:InS C X lo n s a w E){fn:Func}{e:List jF}{K:List PV->Prop}(d:PS C.P fn.results.toList e=true)(h:oh e s K):
  ∃v ps,(results fn a.tmps).run C.P w= .ok v w/\K ps/\Rep w (away X s.mem E) s.mem E v (resV ps):=by
 obtain⟨c,ps,h1,h2,b⟩:=OT hi d h;refine⟨if h:c.toArray.size=1 then c.toArray[0]else .tuple c.toArray,ps,?_,h2,?_⟩
 ·rw[U2,Array.mapM_eq_mapM_toList]
  simp only[Sem.run_bind,Sem.run_map,h1,Result.andThen_ok,Sem.run_pure]
 ·have f:=b.length
  match ps,c,b,f with
  | [],[],b,_=>exact Rep.LK b
  | [p],[v],b,_=>cases b with|cons b _=>exact b
  |p::q::l,v::u::m,b,_=>
   have:¬((v::u::m).toArray.size=1):=by simp
   rw[dif_neg this];exact Rep.LK b
def yK:Nat->List PV->List (Nat×PV)
 | _,[]=>[]
 |k,v::a=>(k,v)::yK (k+1) a
def JW:∀{vs:List PV} {k t:Nat},look (yK k vs) t=if t<k then .dead else(vs[t - k]?).getD .dead
 | [],k,t=>by simp[yK,look]
 |v::vs,k,t=>by
  simp only[yK,look]
  by_cases h:k=t
  ·subst h;simp
  ·have:(k==t)=false:=by simp[h]
   simp only[this,cond_false,JW]
   by_cases h2:t<k
   ·rw[if_pos (by omega),if_pos h2]
   ·rw[if_neg (by omega),if_neg h2]
    have:t - k=(t - (k+1))+1:=by omega
    rw[this];simp
def aC (P:Program)(f:FuncId)(a:Nat)(pc:aA)(b:List jF):Bool:=
 match P.funcs[f]? with
 |some fn=>match fn.body with
  |some code=>decide (a<=fn.ntmps)&&chk P fn.ntmps code pc&&PS P fn.results.toList b
  |none=>false
 |none=>false
def ada (b:List jF)(K:PV->Mem->Prop)(KP:DV->Mem->Prop):Ex->St->Prop
 | .normal,s=>oh b s fun a=>K (resV a) s.mem
 | .ret,s=>oh b s fun a=>K (resV a) s.mem
 | .panic d,s=>KP d s.mem
 | .exit _,_=>False
structure Shut (ds:List Deferred) (w w':World):Prop where
 os:w'.os=w.os
 tape:w'.tape=w.tape
 output:w'.output=w.output
 size:w'.heap.size=w.heap.size
 keep:∀b,(∀d∈ds,d.target≠ .collected b)->w'.heap[b]?=w.heap[b]?
def oI {P:Program}{fn:Func}{tmps:Array Value}{R:Ending->World->Prop}{lo:Nat}{f:List Deferred}{u:FrameMode}(l:u≠ .run):∀{ds:List Deferred} {w:World},okM lo X ds w->
  (∀w',Shut ds w w'->LeavesInM Fence.wide 0 P fn tmps R f u w')->LeavesInM Fence.wide 0 P fn tmps R (ds++f) u w
 | [],w,_,h=>h w ⟨rfl,rfl,rfl,rfl,fun _ _=>rfl⟩
 |d::ds,w,hd,h=>by
  obtain⟨h1,h2⟩:=hd;rw[am]at h2;obtain⟨D,i,s,t,n⟩:=h1 d (by simp);refine⟨l, .inl ⟨D,w.putObj D (.deferred none),i,run_takeDeferred n,?_⟩⟩;have j:∀c∈ds,∀e,c.target= .collected e->e≠D:=by
   rintro c a e o rfl;exact h2.1 c a (by rw[i,o])
  refine oI l (lo:=lo) ⟨fun c a=> ?_,h2.2⟩ fun w' g=>h w' ?_
  ·obtain⟨e,m,p,q,r⟩:=h1 c (by simp[a])
   exact⟨e,m,p,q,by rw[World.putObj_heap_other (j c a e m)];exact r⟩
  ·refine⟨g.os,g.tape,g.output,by rw[g.size];simp,fun b k=> ?_⟩
   rw[g.keep b fun c a=>k c (by simp[a]),World.putObj_heap_other];rintro rfl;exact k d (by simp) i
def Hf {e:World}{M':Mem}{E':Emb}{ds:List Deferred}(h:Sim C X' w' M' E')(f:∀b,C.low b->b<w.heap.size)(hf:From w M E w' M' E')(hd:okM w.heap.size X' ds w')(hs:Shut ds w' e):
  Sim C X' e M' E'/\From w M E e M' E'/\(∀b o,¬away X' M' E' b->w'.heap[b]?=some o->e.heap[b]?=some o/\¬away X' M' E' b):=by
 have a:∀b,(¬X' b\/b<w.heap.size)->e.heap[b]?=w'.heap[b]?:=by
  intro b c;refine hs.keep b fun d j g=> ?_
  obtain⟨D,k,p,l,_⟩:=hd.1 d j;rw[k]at g
  injection g with g
  subst g
  rcases c with c|c
  ·exact c l
  ·omega
 obtain⟨m,n⟩:=h.shift (X':=X') (w':=e) h.iK (fun b c=>by rw[hs.size];exact h.xlt b c) (fun b c=>a b (.inr (f b c))) fun b o c i=>⟨by rw[a b (.inl c)];exact i,c⟩
 refine⟨m,?_,n⟩;exact
  {os:=hs.os.trans hf.os,tape:=hs.tape.trans hf.tape,output:=hs.output.trans hf.output,size:=by rw[hs.size];exact hf.size,
   keep:=fun b o c i=>by rw[a b (.inr (dw i))];exact hf.keep b o c i,
   own:=hf.own,iD:=hf.iD,bx:=hf.bx,bH:=hf.bH,ar:=hf.ar}
def aG (hm:C.P.follows .mixedOrders=true){f:FuncId}{args:List PV}{M:Mem}{K:PV->Mem->Prop}{KP:DV->Mem->Prop}{pc:aA}{R:List jF}{j:Nat}(hn:args.length=j)(hc:aC C.P f j pc R=true)
  (h:pwp C M.boxes.length M.aB.length pc (ada R K KP) ⟨yK 0 args,M⟩):SC C f args M K KP:=by
 subst hn;intro X w E a A T;unfold aC at hc
 split at hc
 ·rename_i fn D
  split at hc
  ·rename_i code q
   simp only[H,decide_eq_true_eq]at hc;obtain⟨⟨ab,arE⟩,G⟩:=hc;have ac:a.length=args.length:=T.length;have hi:InS C X ⟨w.heap.size,[],false,none⟩ fn.ntmps ⟨yK 0 args,M⟩ {tmps:=a.toArray++aw (fn.ntmps - a.toArray.size) undef,defers:=[]} w E:=
    {sim:=A
     size:=by simp;omega
     defers:=DU
     fix:=fun _ h=>by cases h
     env:=fun t=>by
      simp only[JW,Nat.not_lt_zero,if_false,bR];cases ht:args[t]? with
      |none=>exact .dead
      |some p=>
       obtain⟨v,U,hr⟩:=T.get' t p ht;have N:t<a.length:=(ai.1 U).1;have:({tmps:=a.toArray++aw (fn.ntmps - a.toArray.size) undef,defers:=[]}:Act).eval (.tmp t)=v:=by
        simp only[Act.eval,S];rw[Array.getElem?_append_left (by simpa using N)];simp[U]
       rw[this];exact hr}
   refine(callsIn_wide (n:=0)).1 (Sj (F:=Fence.wide) (B:=fun g=>∃fn,C.P.funcs[g]?=some fn) D q trivial ⟨fn,D⟩ ?_);refine xq (F:=RF none) (jK hm code pc (ap _) (ap _) _ (.inl fun _ h=>h) none [] false none _ _ _ w E (fun _ h=>by cases h) (.inl rfl) (fun e=>by cases e) arE h hi (.refl _ _ _)) fun e y w' x=> ?_
   have m:∀b,C.low b->b<w.heap.size:=fun b J=>A.xlt b (A.iK b J)
   have z:∀(s:St) (X':Nat->Prop) (c:Emb),(∀b,X b->X' b)->oh R s (fun vs=>K (resV vs) s.mem)->InS C X' ⟨w.heap.size,[],false,none⟩ fn.ntmps s y w' c->From w M E w' s.mem c->
     LeavesInM Fence.wide 0 C.P fn y.tmps (fun e w'=>Fin C X w M E K KP w' e) y.defers .returning w':=by
    intro s X' c k h1 h2 o;obtain⟨ms,r,i,_⟩:=h2.defers;rw[r];refine oI (by simp) i fun V u=> ?_
    obtain⟨I,O,Q⟩:=Hf h2.sim m o i u;have L:InS C X' ⟨w.heap.size,[],false,none⟩ fn.ntmps s {y with defers:=[]} V c:={sim:=I,env:=fun t=>(h2.env t).move Q,size:=h2.size,defers:=DU,fix:=fun _ h=>by cases h}
    obtain⟨v,ps,W,Y,Z⟩:=Js L G h1;exact⟨v,W,_,s.mem,c,Y,I.less k A.iK,O,Z.less k⟩
   cases e with
   |normal=>
    obtain⟨X',s,c,k,h1,h2,o⟩:=x;exact z s X' c k h1 h2 o
   |ret=>
    obtain⟨X',s,c,k,h1,h2,o⟩:=x;exact z s X' c k h1 h2 o
   |panic ch=>
    obtain⟨X',v,d,M',c,k,rfl,h1,h2,o,h4,h5,_⟩:=x;obtain⟨ms,r,i,_⟩:=h5
    show LeavesInM _ _ _ _ _ _ y.defers _ _
    rw[r];refine oI (by simp) i fun V u=> ?_
    obtain⟨I,O,Q⟩:=Hf h2 m o i u;exact⟨v,d,M',c,rfl,h1,I.less k A.iK,O,(h4.mono Q).weaken fun b J=>J.imp (k b) id⟩
   |exit id=>obtain⟨X',s,c,k,h1,_⟩:=x;exact h1.elim
   |goto l=>exact x.elim
   |outgrown=>exact x.elim
  ·cases hc
 ·cases hc
end
def mkRow (M:Mem)(q:Nat×Nat):Arr:=match M.aB[q.1]? with|some (some A)=>⟨A.sz,A.elems.drop q.2,0,A.st⟩| _=>default
def ig (M:Mem)(E:Emb)(q:Nat×Nat):Option (Nat×Nat×Nat):=match M.aB[q.1]?,E.ar[q.1]? with|some (some A),some (some (a,o,e))=>some (a,o+q.2*A.sz,e)| _,_=>none
def Ai (M:Mem)(q:Nat×Nat):Bool:=match M.aB[q.1]? with|some (some A)=>decide (q.2<=A.elems.length)| _=>false
def Nu:List (Nat×Nat)->Nat->Nat->Nat->Option Nat
 | [],_,_,_=>none
 |(a,b)::l,i,k,s=>bif a==k&&b==s then some i else Nu l (i+1) k s
def UY (M:Mem)(L:List (Nat×Nat)):PV->PV
 | .d x=> .d x
 | .tsl k ver skip=>match M.row k ver,Nu L 0 k skip with|some _,some i=> .tsl i 0 0| _,_=> .dead
 | _=> .dead
def akG (M:Mem)(L:List (Nat×Nat)):PV->PV
 | .agg cs=> .agg (cs.map (UY M L))
 |p=>UY M L p
def ren (M:Mem)(L:List (Nat×Nat)):PV->PV
 | .agg cs=> .agg (cs.map (UY M L))
 | .tup cs=> .tup (cs.map (akG M L))
 |p=>UY M L p
def Ak (M:Mem)(L:List (Nat×Nat)):Prop:=(∀q∈L,Ai M q=true)/\(L.map (·.1)).Nodup
def Xt:∀{L:List (Nat×Nat)} {i k s j:Nat},Nu L i k s=some j->i<=j/\L[j - i]?=some (k,s)
 | [],i,k,s,j,h=>by simp[Nu]at h
 |(a,b)::l,i,k,s,j,h=>by
  simp only[Nu]at h;cases c:(a==k&&b==s)with
  |true=>
   rw[c]at h;simp only[cond_true,Option.some.injEq]at h;subst h;simp only[H,beq_iff_eq]at c;obtain⟨rfl,rfl⟩:=c;simp
  |false=>
   rw[c]at h;simp only[cond_false]at h;obtain⟨h1,h2⟩:=Xt h;refine⟨by omega,?_⟩;rw[show j - i=(j - (i+1))+1 by omega]
   simpa using h2
section
variable {C:Ctx}{X:Nat->Prop}{w:World}{M:Mem}{E:Emb}
variable{q:Nat×Nat}
def ajV (h:Ai M q=true):∃A,M.aB[q.1]?=some (some A)/\q.2<=A.elems.length/\mkRow M q=⟨A.sz,A.elems.drop q.2,0,A.st⟩:=by
 unfold Ai at h
 split at h
 ·rename_i A a
  simp only[decide_eq_true_eq]at h;exact⟨A,a,h,by simp[mkRow,a]⟩
 ·cases h
def Ik {blk o e:Nat}(h:ig M E q=some (blk,o,e)):∃A o',M.aB[q.1]?=some (some A)/\E.ar[q.1]?=some (some (blk,o',e))/\o=o'+q.2*A.sz:=by
 unfold ig at h
 split at h
 ·rename_i A a o' d b c
  simp only[Option.some.injEq,Prod.mk.injEq]at h;obtain⟨rfl,rfl,rfl⟩:=h;exact⟨A,o',b,c,rfl⟩
 ·cases h
variable{L:List (Nat×Nat)}{i:Nat}
def RD {B:Arr}(d:Ak M L)(h:(rowsOf (L.map (mkRow M))).aB[i]?=some (some B)):∃q A,L[i]?=some q/\M.aB[q.1]?=some (some A)/\q.2<=A.elems.length/\B=⟨A.sz,A.elems.drop q.2,0,A.st⟩:=by
 simp only[rowsOf,bO,ax,ae,bB]at h;obtain⟨q,b,a⟩:=h;simp only[Option.some.injEq]at a;obtain⟨A,h1,h2,c⟩:=ajV (d.1 q (bd b));exact⟨q,A,b,h1,h2,by rw[<-a,c]⟩
def yF (a:L[i]?=some q):(L.map (ig M E))[i]?=some (ig M E q):=by
 simp[a]
def OL (g:Ak M L){b:Nat}(h:owned (rowsOf (L.map (mkRow M))) ⟨[],L.map (ig M E)⟩ b):owned M E b:=by
 rcases h with⟨i,cs,h1,_⟩|⟨i,B,o,e,h1,h2,c⟩
 ·simp[rowsOf]at h1
 ·obtain⟨q,A,f,a,m,rfl⟩:=RD g h1
  simp only[yF f,Option.some.injEq]at c;obtain⟨l,j,d,k,_⟩:=Ik c;rw[a]at d;cases d;exact .inr ⟨q.1,A,j,e,a,h2,k⟩
def Zh (h:Sim C X w M E)(c:Ak M L):Sim C X w (rowsOf (L.map (mkRow M))) ⟨[],L.map (ig M E)⟩:=by
 have d:∀b,away X (rowsOf (L.map (mkRow M))) ⟨[],L.map (ig M E)⟩ b->away X M E b:=fun b f=>f.imp id (OL c)
 exact
  {glob:=h.glob,iK:=h.iK,xlt:=h.xlt
   iD:=rfl
   bH:=by simp[rowsOf]
   box:=fun b cs f=>by simp[rowsOf]at f
   arr:=fun i B n=>by
    obtain⟨q,A,g1,g2,g3,rfl⟩:=RD c n;obtain⟨y,s2,s3,z⟩:=h.arr q.1 A g2;refine⟨y,fun x u=>s2 x (List.mem_of_mem_drop u),fun t=> ?_,fun a o e k=> ?_⟩
    ·obtain⟨⟨a,o,e⟩,s⟩:=s3 t
     exact⟨(a,o+q.2*A.sz,e),by rw[yF g1];simp[ig,g2,s]⟩
    ·simp only[yF g1,Option.some.injEq]at k
     obtain⟨A',o',q1,q2,rfl⟩:=Ik k;rw[g2]at q1;cases q1;obtain⟨r1,vs,T,r2,r3,r4,r5⟩:=z a o' e q2;refine⟨r1,vs,T,r2,?_,r4,?_⟩
     ·simp only[bt]
      have:q.2*A.sz+(A.elems.length - q.2)*A.sz=A.elems.length*A.sz:=by rw[<-bX];congr 1;omega
      omega
     ·simp only[bt]
      exact(row_drop s2 r5).weaken d
   bb:=fun b F cs l a h1=>by simp[rowsOf]at h1
   aa:=fun i G B D a o e o' m h1 h2 g j=>by
    obtain⟨q,A,g1,g2,g3,rfl⟩:=RD c h1;obtain⟨v,A',g1',g2',g3',rfl⟩:=RD c h2;simp only[yF g1,Option.some.injEq]at g;simp only[yF g1',Option.some.injEq]at j;obtain⟨_,p1,_,p2,_⟩:=Ik g;obtain⟨_,p1',_,p2',_⟩:=Ik j;have r:=h.aa q.1 v.1 A A' a p1 e p1' m g2 g2' p2 p2';have p:i<(L.map (·.1)).length:=by simpa using(ai.1 g1).1
    refine(List.getElem?_inj p c.2).1 ?_;simp[g1,g1',r]
   ba:=fun b i cs B a o e h1=>by simp[rowsOf]at h1}
def Tc {w₀:World}(hf:From w₀ bY ⟨[],[]⟩ w M E)(c:Ak M L):From w₀ bY ⟨[],[]⟩ w (rowsOf (L.map (mkRow M))) ⟨[],L.map (ig M E)⟩:={
 os:=hf.os
 tape:=hf.tape
 output:=hf.output
 size:=hf.size
 keep:=hf.keep
 own:=fun b a=>hf.own b (OL c a)
 iD:=ap _
 bx:=fun b cs a=>by simp[bY]at a
 bH:=bw _
 ar:=fun k e d=>by simp[bY]at d}
def U1 (h:Sim C X w M E)(D:Ak M L){v:Value}{p:PV}(q:Rep w (away X M E) M E v p):
  Rep w (away X (rowsOf (L.map (mkRow M))) ⟨[],L.map (ig M E)⟩) (rowsOf (L.map (mkRow M))) ⟨[],L.map (ig M E)⟩ v (UY M L p):=by
 have f:∀b,away X (rowsOf (L.map (mkRow M))) ⟨[],L.map (ig M E)⟩ b->away X M E b:=fun b F=>F.imp id (OL D)
 cases p with
 |d x=>exact .d (q.toD.weaken f)
 |tsl k ver skip=>
  simp only[UY]
  split
  ·rename_i A i t G
   obtain⟨_,c⟩:=Xt G;simp only[bR]at c;obtain⟨t1,t2,R,S,N⟩:=Hr h q t;obtain⟨a,cap,H⟩:=q.kD t;subst H;have g:mkRow M (k,skip)=⟨A.sz,A.elems.drop skip,0,A.st⟩:=by simp[mkRow,t1]
   have m:i<L.length:=(ai.1 c).1;refine .tsl (by simpa[rowsOf]using m) fun B u=> ?_
   have l:B=⟨A.sz,A.elems.drop skip,0,A.st⟩:=by
    simp only[rowsOf,bO,ax,c,Option.map_some,bB,Option.some.injEq]at u;rw[<-u,g]
   subst l;refine⟨ap _,fun _=>⟨_,yF c,bw _,?_⟩⟩
   rcases N with⟨j,o,e,U,T,s,r,I,O,P,Q,J⟩|⟨r,I,hd⟩
   ·have n:ig M E (k,skip)=some (j,o+skip*A.sz,e):=by simp[ig,t1,r]
    rw[n];simp only
    rcases J with⟨hh,y,K⟩|⟨y,_,z,hh⟩
    ·cases hh
     refine .inl ⟨cap,by simp,by simpa using y,?_⟩;simp only[bS];rw[Nat.add_assoc,<-bX];exact K
    ·refine .inr ⟨by simp;omega,z,?_⟩
     exact hh
   ·have n:ig M E (k,skip)=none:=by simp[ig,t1,r]
    rw[n]
    simpa using hd.weaken f
  ·exact .dead
 | _=>exact .dead
def OO {L:List (Nat×Nat)}(h:Sim C X w M E)(a:Ak M L):∀{vs:List Value} {ps:List PV},aP w (away X M E) M E vs ps->
  aP w (away X (rowsOf (L.map (mkRow M))) ⟨[],L.map (ig M E)⟩) (rowsOf (L.map (mkRow M))) ⟨[],L.map (ig M E)⟩ vs (ps.map (UY M L))
 | _,_, .nil=> .nil
 | _,_, .cons h1 t=> .cons (U1 h a h1) (OO h a t)
def akH (h:Sim C X w M E)(a:Ak M L){v:Value}{p:PV}(b:Rep w (away X M E) M E v p):
  Rep w (away X (rowsOf (L.map (mkRow M))) ⟨[],L.map (ig M E)⟩) (rowsOf (L.map (mkRow M))) ⟨[],L.map (ig M E)⟩ v (akG M L p):=by
 cases p with
 |agg cs=>cases b with|agg hh=>exact .agg (OO h a hh)
 | _=>exact U1 h a b
def Xx {L:List (Nat×Nat)}(h:Sim C X w M E)(a:Ak M L):∀{vs:List Value} {ps:List PV},aP w (away X M E) M E vs ps->
  aP w (away X (rowsOf (L.map (mkRow M))) ⟨[],L.map (ig M E)⟩) (rowsOf (L.map (mkRow M))) ⟨[],L.map (ig M E)⟩ vs (ps.map (akG M L))
 | _,_, .nil=> .nil
 | _,_, .cons h1 t=> .cons (akH h a h1) (Xx h a t)
def anh (h:Sim C X w M E)(a:Ak M L){v:Value}{p:PV}(b:Rep w (away X M E) M E v p):
  Rep w (away X (rowsOf (L.map (mkRow M))) ⟨[],L.map (ig M E)⟩) (rowsOf (L.map (mkRow M))) ⟨[],L.map (ig M E)⟩ v (ren M L p):=by
 cases p with
 |agg cs=>cases b with|agg hh=>exact .agg (OO h a hh)
 |tup cs=>cases b with|tup hh=>exact .tup (Xx h a hh)
 | _=>exact U1 h a b
def NH {w:World}(d:C.G w)(hl:∀b,C.low b->X b)(hx:∀b,X b->b<w.heap.size):Sim C X w bY ⟨[],[]⟩:={
 glob:=d
 iK:=hl
 xlt:=hx
 iD:=rfl
 bH:=rfl
 box:=fun b cs h=>by simp[bY]at h
 arr:=fun k A h=>by simp[bY]at h
 bb:=fun b g cs c a h=>by simp[bY]at h
 aa:=fun k j A f a o e l i h=>by simp[bY]at h
 ba:=fun b k cs A a o e h=>by simp[bY]at h}
def Hy:∀b,away X bY ⟨[],[]⟩ b->X b:=by
 rintro b (h|⟨i,cs,h,_⟩|⟨k,A,o,e,h,_⟩)
 ·exact h
 ·simp[bY]at h
 ·simp[bY]at h
def Ee {f:FuncId}{ds:List DV}{r:PV}{ass:List Arr}(h:SC C f (ds.map .d) bY (fun p M=>∃L,Ak M L/\ren M L p=r/\L.map (mkRow M)=ass) (fun _ _=>False)):Pure C f ds r ass:=by
 intro X w a l m o n;refine(h X w ⟨[],[]⟩ a (NH l m o) (aP.ofD (n.weaken Hy))).mono fun e w' g=> ?_
 cases e with
 |returned v=>
  obtain⟨p,M',i,⟨L,b,rfl,rfl⟩,h2,j,k⟩:=g;exact⟨v,_,rfl,Zh h2 b,Tc j b,anh h2 b k⟩
 |panicked c=>
  obtain⟨v,d,M',i,_,hh,_⟩:=g;exact hh.elim
 |outgrown=>exact g.elim
def sD (c:C.P.follows .mixedOrders=true){f:FuncId}{ds:List DV}{r:PV}{ass:List Arr}{pc:aA}{b:List jF}{a:Nat}(e:(ds.map PV.d).length=a)(hc:aC C.P f a pc b=true)
  (h:pwp C 0 0 pc (ada b (fun p M=>∃L,Ak M L/\ren M L p=r/\L.map (mkRow M)=ass) (fun _ _=>False)) ⟨yK 0 (ds.map .d),bY⟩):Pure C f ds r ass:=
 Ee (aG c e hc h)
def ah (c:C.P.follows .mixedOrders=true){f:FuncId}{ds:List DV}{x:DV}{pc:aA}{b:List jF}{a:Nat}(e:(ds.map PV.d).length=a)(hc:aC C.P f a pc b=true)
  (h:pwp C 0 0 pc (ada b (fun p _=>p= .d x) (fun _ _=>False)) ⟨yK 0 (ds.map .d),bY⟩):Pure C f ds (.d x) []:=by
 refine Ee (SC.mono (aG c e hc h) fun v M' i=>⟨[],⟨fun q g=>(by cases g),List.nodup_nil⟩,?_,rfl⟩);subst i
 rfl
end
end Go.Am
