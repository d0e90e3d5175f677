/-
  Part 9 of a law of desks.
  Conditions: none.
-/
import Derived.Test.YtkbhljmmnbgloaaGreatDoorTopBetterM04
import Derived.Test.YtkbhljmmnbgloaaGreatDoorTopBetterM05
import Derived.Test.YtkbhljmmnbgloaaGreatDoorTopBetterM07
import Derived.Test.YtkbhljmmnbgloaaGreatDoorTopBetterM08
set_option linter.all false
set_option maxRecDepth 10000
set_option maxHeartbeats 4000000
open Nat renaming reduceBEq->H,reduceAdd->J,reduceSub->O,reduceEqDiff->S,reduceLT->U,reduceLeDiff->V,le_refl->aw,zero_le->az,lt_irrefl->bE,zero_add->b6,pow_le_pow_right->cq,gcd_pos_of_pos_right->cH,add_zero->cP,sub_zero->cQ,mul_div_cancel'->dg,gcd_dvd_left->dr,lt_succ_self->dt,le_trans->d6,pow_succ->d7,gcd->ec
open List renaming length_map->W,getElem?_eq_some_iff->ab,length_append->ai,replicate->am,getD_eq_getElem?_getD->ao,getElem?_append_left->ap,getElem?_set_ne->aq,mem_map->av,getElem?_set_self->ax,range->aD,mem_singleton->aL,length_cons->aM,map_append->aR,getElem?_eq_getElem->a6,map_cons->a7,length_nil->be,length_set->bh,mem_flatMap->bj,mem_cons->bl,append_assoc->br,getElem?_map->bt,length_eq_zero_iff->bu,mem_range->bA,mem_or_eq_of_mem_set->bB,getElem?_range->bL,take_length->bO,range_succ->bR,ext_getElem?->bS,getElem?_set->bX,mem_map_of_mem->b7,zip_cons_cons->b8,length_range->ce,map_nil->cf,mem_range'_1->cg,zip_nil_left->ch,length_filter_le->cj,length_replicate->ck,length_singleton->cl,all_eq_true->cn,eq_nil_of_length_eq_zero->cp,mem_append->cr,length_pos_iff->ct,drop_zero->cv,find?_eq_none->cw,find?_append->cC,flatMap_cons->cD,pairwise_map->cE,eq_of_mem_replicate->cG,drop_eq_nil_of_le->cK,pairwise_lt_range->cL,zipWith->cM,zipWith_cons_cons->cN,append_nil->cT,mem_filter->cU,contains_iff_mem->cW,take_append_drop->cX,getElem?_modify->cY,length->db,getD_cons_succ->dd,getD_cons_zero->de,replicate_succ->df,filter_append->dj,pairwise_cons->dk,set_set->dm,drop_length->dp,isEmpty_iff->dq,foldl_cons->dx,map_map->d0,map_set->d5,map->d9
open Int renaming toNat_natCast->ae,lt_irrefl->aE,mul_le_mul->a8,mul_le_mul_of_nonneg_left->bc,mul_assoc->bk,mul_le_mul_of_nonneg_right->bo,one_mul->bz,mul_comm->b9,mul_nonneg->ca,eq_of_mul_eq_mul_left->cz,le_refl->cA,mul_left_comm->cB,natCast_mul->cR,natAbs_dvd_natAbs->cV,gcd->dc,natAbs_natCast->di,toNat->dn,pow_succ->dT,fdiv->d8
open Bool renaming and_eq_true->bN,false_or->cF,not_eq_true->cI,eq_iff_iff->du,false_and->dC
open Option renaming getD_some->cJ,map_none->dy,map_some->dz,none_or->dE,map->ea
open Function renaming comp_def->dl
open Iff renaming rfl->eb
open And renaming intro->ed
open Go.IntKind renaming wrap->ee
namespace Go.Tel
open Go.Am
end Go.Tel
namespace Go.Am
section
variable {C:Ctx}{base nb na:Nat}{K:DV->Prop}{KP:DV->Mem->Prop}{L:PV->Mem->Prop}{bs:List (Option (List PV))}{fz:List Nat}{ar:List (Option Arr)}
def alc {k:IntKind}{a b:Int}:mD .and k a b K=K (.int k (k.wrap ((BitVec.ofInt k.bits a&&&BitVec.ofInt k.bits b).toNat:Int))):=px
variable{sz:Nat}
def YL {z:DV}{k k':IntKind}{n:Int}:au C base (.mkRow sz z) [.d (.int k n), .d (.int k' n)] ⟨bs,fz,ar⟩ L KP=(0<=n/\n<=1048576/\0<sz/\z.fits sz=true/\L (.tsl ar.length 0 0) ⟨bs,fz,ar++ [some ⟨sz,am n.toNat z,0,1⟩]⟩):=
 propext ⟨fun h=>h.2,fun h=>⟨rfl,h⟩⟩
variable{k ver skip st:Nat}
def akM {xs:List DV}{kd:IntKind}{n:Int}(h:ar[k]?=some (some ⟨sz,xs,ver,st⟩))(a:0<=n)(c:n<=(xs.length - skip:Nat))(b:L (.tsl k ver (skip+n.toNat)) ⟨bs,fz,ar⟩):
  au C base (.UC sz) [.tsl k ver skip, .d (.int kd n)] ⟨bs,fz,ar⟩ L KP:=by
 simp only[au,F9,h,if_true];exact⟨trivial,a,c,b⟩
def akN {xs:List DV}{kd:IntKind}{n:Int}(h:ar[k]?=some (some ⟨sz,xs,ver,st⟩))(a:0<=n)(c:n<=(xs.length - skip:Nat))(b:L (.psl k ver skip n.toNat) ⟨bs,fz,ar⟩):
  au C base (.UD sz) [.tsl k ver skip, .d (.int kd n)] ⟨bs,fz,ar⟩ L KP:=by
 simp only[au,F9,h,if_true];exact⟨trivial,a,c,b⟩
def ahv {xs ys:List DV}{ex:Bool}(h:ar[k]?=some (some ⟨sz,xs,ver,1⟩))(hf:∀y∈ys,y.fits sz=true)
  (a:L (.d (dI (min ys.length (xs.length - skip):Nat))) ⟨bs,fz,ar.set k (some ⟨sz,xs.take skip++(ys.take (xs.length - skip)++xs.drop (skip+ys.length)),ver,1⟩)⟩):
  au C base (.copy sz) [.tsl k ver skip, .d (.slice ex ys)] ⟨bs,fz,ar⟩ L KP:=by
 simp only[au,F9,h,if_true,Nw];exact⟨trivial,trivial,hf,a⟩
def ahw {aah len:Nat}{xs:List DV}(h:ar[k]?=some (some ⟨sz,xs,ver,1⟩))(hf:∀y∈(xs.drop aah).take len,y.fits sz=true)
  (a:L (.d (dI (min ((xs.drop aah).take len).length (xs.length - skip):Nat))) ⟨bs,fz,ar.set k (some ⟨sz,xs.take skip++(((xs.drop aah).take len).take (xs.length - skip)++xs.drop (skip+((xs.drop aah).take len).length)),ver,1⟩)⟩):
  au C base (.copy sz) [.tsl k ver skip, .psl k ver aah len] ⟨bs,fz,ar⟩ L KP:=by
 simp only[au,F9,h,if_true,Nw,dz];exact⟨trivial,trivial,hf,a⟩
end
end Go.Am
namespace Go.Tel
open Go.Am
def QK {n:Nat}(h:n<4294967296):IntKind.u64.wrap ((BitVec.ofInt IntKind.u64.bits (n:Int)&&&BitVec.ofInt IntKind.u64.bits 4294967295).toNat:Int)=n:=by
 have e:(BitVec.ofInt IntKind.u64.bits (n:Int)&&&BitVec.ofInt IntKind.u64.bits 4294967295).toNat=n:=by
  show(BitVec.ofInt 64 (n:Int)&&&BitVec.ofInt 64 4294967295).toNat=n
  rw[BitVec.toNat_and];have h1:(BitVec.ofInt 64 (n:Int)).toNat=n:=by
   rw[BitVec.toNat_ofInt];omega
  have h2:(BitVec.ofInt 64 4294967295).toNat=2 ^ 32 - 1:=by decide
  rw[h1,h2,Nat.and_two_pow_sub_one_eq_mod];omega
 rw[e];exact ND (by omega)
def acJ {n:Nat}(h:n<4294967296):d8 (n:Int) (2 ^ min (dn 32) IntKind.u64.bits)=0:=by
 have e:(2:Int) ^ min (dn 32) IntKind.u64.bits=4294967296:=by decide
 rw[e,Int.fdiv_eq_ediv_of_nonneg _ (by omega)];omega
def V4 (n:Nat)(h:n<=1000000):Pure C 248 [.int .u64 1, .int .u64 n] (.d (.tup [.int .u64 0, .int .u64 n])) []:=by
 have b:IntKind.u64.wrap ((BitVec.ofInt IntKind.u64.bits 1&&&BitVec.ofInt IntKind.u64.bits 4294967295).toNat:Int)=1:=QK (n:=1) (by omega);have a:IntKind.u64.wrap ((BitVec.ofInt IntKind.u64.bits 0&&&BitVec.ofInt IntKind.u64.bits 4294967295).toNat:Int)=0:=QK (n:=0) (by omega);have c:=QK (n:=n) (by omega);have g:d8 1 (2 ^ min (dn 32) IntKind.u64.bits)=0:=acJ (n:=1) (by omega);have s0:d8 0 (2 ^ min (dn 32) IntKind.u64.bits)=0:=acJ (n:=0) (by omega);have i:=acJ (n:=n) (by omega);have m1:IntKind.u64.wrap (1*(n:Int))=n:=by rw[bz];exact ND (by omega)
 have e:IntKind.u64.wrap (0*(n:Int))=0:=by rw[Int.zero_mul];rfl
 have z1:IntKind.u64.wrap (0+0)=0:=rfl;have j:IntKind.u64.wrap (1*0)=0:=rfl;have k:IntKind.u64.wrap (0*0)=0:=rfl;have f:(0:Int)<=32:=by decide
 refine ah Jv bn ?_;simp only[Jv,bn,alc,abq,b,a,c,g,s0,i,m1,e,z1,j,k,f,RN,H,J]
def aaM (n:Nat)(h:n<=1000000):Pure C 169 [.int .u64 1, .int .u64 n] (.d (.tup [.int .u64 0, .int .u64 n])) []:=by
 refine ah PD bn ?_;simp only[PD,bn,RN,H,J];refine ak (V4 n h) ?_;(try simp only[RN])
def ai4 {α:Type}(T Z:α){q N:Nat}(h:q<=N):(am q T++am (N - q) Z).take q++((am q T).take (N - q)++(am q T++am (N - q) Z).drop (q+q))=am (q+min q (N - q)) T++am (N - (q+min q (N - q))) Z:=by
 apply bS;intro i;simp only[List.getElem?_append,List.getElem?_take,List.getElem?_drop,List.getElem?_replicate,ai,List.length_take,ck]
 repeat' split
 all_goals(first|rfl|omega|(simp;omega))
end Go.Tel
namespace Go.Am
section
variable {C:Ctx}{base:Nat}{KP:DV->Mem->Prop}{L:PV->Mem->Prop}{M:Mem}
end
def Weak.keep {nb na:Nat}{ks:List Nat}{env:List (Nat×PV)}{bs:List (Option (List PV))}{fz:List Nat}{ar:List (Option Arr)}(h1:nb<=bs.length)(h2:na<=ar.length)(e:(env.all fun p=>p.2.upto bs.length ar.length)=true)
  (d:(bs.all fun c=>(c.getD []).all fun p=>p.upto bs.length ar.length)=true):Weak nb na ⟨env,⟨bs,fz,ar⟩⟩ ⟨iq env ks,⟨bs,fz.filter (fun b=>decide (b<bs.length)),ar⟩⟩:=by
 refine .inr (.inl ⟨bs.length,ar.length,h1,h2,by simp,fun t=> ?_,fun cs a c f=> ?_⟩)
 ·rcases EH (l:=env) (ks:=ks) t with h|h
  ·exact .inr ⟨h,by rw[h];exact Sz e t⟩
  ·exact .inl h
 ·simp only[cn]at d
  exact d cs a c f
end Go.Am
namespace Go.Tel
open Go.Am
inductive RtR where
 |go (out:List Tn) (left:List Int)
 |locked (a b:Int)
 |none
 deriving DecidableEq,Inhabited
def ad9 (t:Int)(N:Nat)(h:N<=1000):Pure C 129 [.slice false [(dI t)],dI N] (.tsl 0 0 0) [⟨1,am N (dI t),0,1⟩]:=by
 have o:¬((N:Int)<0):=by omega
 have g:IntKind.u64.wrap ((0+1:Nat):Int)=1:=by decide
 have i:IntKind.u64.wrap (N:Int)=N:=ND (by omega);have j:ee .i64 (N:Int)=N:=aF (by omega);have m:¬((0:Int)>0):=by decide
 have n:¬((N:Int)>9223372036854775807):=by omega
 refine eU xP aH ?_;simp only[xP,aH,o,g,RN,H,J,U];refine cO rfl rfl (by simp only[a7,cf,DV.strip,i];exact aaM N (by omega)) ?_;have u:(0:Int)<=(N:Int):=by omega
 have v:(N:Int)<=1048576:=by omega
 have s:DV.fits 1 (dI 0)=true:=rfl;simp only[j,m,n,YL,u,v,s,ae,RN,H,U];refine ahv (xs:=am N (dI 0)) rfl (by simp;rfl) ?_;(try simp only[RN]);have l:[(dI t)].take N++(am N (dI 0)).drop 1=am (min 1 N) (dI t)++am (N - min 1 N) (dI 0):=by
  rcases N with _|N
  ·rfl
  ·rw[show min 1 (N+1)=1 by omega];simp
 refine kN (fun(q:Nat)=>⟨[(7, .tsl 1 0 0),(8,pI q)],⟨[],[],[some ⟨1,[],0,0⟩,some ⟨1,am q (dI t)++am (N - q) (dI 0),0,1⟩]⟩⟩)
  (fun q=>q<=N/\(0<N->0<q)) (fun q=>N - q) (min 1 N) (by simp only[ck,cQ,l]) ⟨by omega,by omega⟩ (fun q c=> ?_)
 have a:(((am q (dI t)++am (N - q) (dI 0)).length - 0:Nat):Int)=N:=by simp;omega
 by_cases p:q<N
 ·have b1:(q:Int)<N:=by omega
  have e:(0:Int)<=(q:Int):=by omega
  have b2:(q:Int)<=(((am q (dI t)++am (N - q) (dI 0)).length - 0:Nat):Int):=by rw[a];omega
  have f:=ai4 (dI t) (dI 0) c.1;have d:(am q (dI t)++am (N - q) (dI 0)).take q=am q (dI t):=by
   rw[List.take_append_of_le_length (by simp),List.take_of_length_le (by simp)]
  have b:(am q (dI t)++am (N - q) (dI 0)).length=N:=by simp;omega
  simp only[a,b1,RN,H];refine akM rfl e b2 ?_;(try simp only[RN]);refine akN rfl e b2 ?_;simp only[ae];refine ahw rfl (by rw[cv,d];intro y r;rw[cG r];rfl) ?_;rw[cv,d,b,ck];rw[d]at f;have w1:ee .i64 ((q:Int)+((min q (N - q):Nat):Int))=((q+min q (N - q):Nat):Int):=by rw[aF (by omega)];omega
  simp only[w1,f,RN];refine XT (q+min q (N - q)) (by have:=c.2 (by omega);omega) rfl ⟨by omega,fun _=>by have:=c.2 (by omega);omega⟩ (by simp) (by simp) (by rfl) (by rfl)
 ·obtain rfl:q=N:=by omega
  have b1:¬((q:Int)<q):=by omega
  simp only[a,b1,RN,H];exact gJ (k:=1) (A:=⟨1,_,0,1⟩) rfl rfl (az _) (by simp)
def marksOf (k:Nat)(l:List Int):List Bool:=(aD (60 ^ k+1)).map fun(x:Nat)=>decide ((x:Int)∈l)
def Nu (k:Nat)(l:List Int):List Int:=((aD (60 ^ k+1)).filter fun(x:Nat)=>decide ((x:Int)∈l)).map fun(x:Nat)=>(x:Int)
def zW (r:Ru)(k:Nat):List Bool:=marksOf k (dL r.tt k 0 1)
def dM (r:Ru)(k:Nat):List Int:=Nu k (dL r.tt k 0 1)
def sDV (r:Ru)(k:Nat):DV:=sF ((dM r k).map ay)
def mDV (r:Ru)(k:Nat):DV:=sF ((zW r k).map .bool)
def Ru.wn (r:Ru):Nat:=r.pr.toNat+1
def Ru.wdv (r:Ru):DV:= .agg [dI r.lo,dI r.hi,dI r.pr,dI 1, .slice false [],sF (r.tt.map ay),sF ((aD r.wn).map (sDV r)),sF ((aD r.wn).map (mDV r))]
def aiS (n:Nat):bZ (am n (60:Int)) 1=60 ^ n:=by
 have:∀(n:Nat) (p:Int),bZ (am n (60:Int)) p=p*60 ^ n:=by
  intro n
  induction n with
  |zero=>intro p;simp[bZ]
  |succ n a=>intro p;rw[df,bZ,a,dT,bk,b9 60]
 rw[this];omega
variable{k:Nat}
def SX (hk:k<=3):1<=(60:Int) ^ k/\(60:Int) ^ k<=216000:=by
 match k,hk with
 |0,_=>decide
 |1,_=>decide
 |2,_=>decide
 |3,_=>decide
structure Ee (r:Ru) (i:Nat) (cs cm:PV) (M:Mem):Prop where
 box:M.boxes[2]?=some (some [pI r.lo,pI r.hi,pI r.pr,pI 1, .d (.slice false []), .d (sF (r.tt.map ay)),cs,cm])
 s:slN 1 false cs ((aD i).map (sDV r)) M.aC
 m:slN 1 false cm ((aD i).map (mDV r)) M.aC
 dif:∀k,kOf cs=some k->kOf cm≠some k
 nb:2∉M.fz
 out:M.boxes[1]?=some (some [pI 0,pI 0,pI 0,pI 0, .d (.slice true []), .d (.slice true []), .d (.slice true []), .d (.slice true [])])
 ob:1∉M.fz
 fzb:FzB M
def afK (k:Nat):(marksOf k []).map DV.bool=am (60 ^ k+1) (.bool false):=by
 simp only[marksOf,List.not_mem_nil,decide_false,d0];rw[List.eq_replicate_iff];exact⟨by simp,by intro x a;simp only[av]at a;obtain⟨_,_,rfl⟩:=a;rfl⟩
def Oc (k:Nat)(l:List Int):(marksOf k l).length=60 ^ k+1:=by simp[marksOf]
def afJ {q:Nat}(l:List Int):(marksOf k l).set q true=marksOf k (l++ [(q:Int)]):=by
 apply bS;intro j;simp only[marksOf,bX,bt,W,ce]
 by_cases a:j<60 ^ k+1
 ·rw[bL a]
  by_cases e:q=j
  ·subst e
   simp[a]
  ·have:¬(j:Int)=(q:Int):=by omega
   simp[e,this]
 ·rw[List.getElem?_eq_none (by simpa using a)]
  split
  ·rename_i e;subst e;simp[a]
  ·rfl
variable{r:Ru}
def AV (g:r.ok=true):∀(k fr:Nat) (now:Int),1<=now->∀x∈dL r.tt k fr now,1<=x/\x<=now*60 ^ k:=by
 obtain⟨⟨h1,h2,n⟩, -⟩:=Ru.facts g;intro k
 induction k with
 |zero=>intro fr now e x a;simp only[dL,aL]at a;subst a;simp;omega
 |succ k j=>
  intro fr now e x a;simp only[dL,bj,cg]at a;obtain⟨i,⟨_,hi⟩,a⟩:=a;have b:i<r.tt.length:=by omega
  have c:=Iw b;have h:=Fe r;have d:1<=r.tt.getD i default/\r.tt.getD i default<=60:=by rw[c];omega
  have o:=a8 e d.1 (by decide) (by omega);obtain⟨l,m⟩:=j i _ (by omega) x a;refine⟨l,Int.le_trans m ?_⟩;have f:(1:Int)<=60 ^ k:=Int.pow_pos (by decide);rw[dT,bk,b9 (r.tt.getD i default)];exact bc (bc d.2 (by omega)) (by omega)
def Ee.moved {i n:Nat}{cs cm:PV}{M M':Mem}(h:Ee r i cs cm M)(b:2<n)(a:Moved n no M M'):Ee r i cs cm M':=
 ⟨(a.box 2 b id).trans h.box,by rw[a.aC];exact h.s,by rw[a.aC];exact h.m,h.dif,fun e=>h.nb ((a.fz 2 b id).1 e),(a.box 1 (by omega) id).trans h.out,fun e=>h.ob ((a.fz 1 (by omega) id).1 e),a.fzb h.fzb⟩
variable{bs:List (Option (List PV))}{fz:List Nat}{ar:List (Option Arr)}{ver sz st:Nat}{env:List (Nat×PV)}
def akW {K:St->Prop}{w t:Nat}{ts:List Nat}{xs:List DV}(hb:bs[w]?=some (some [.tsl k ver 0]))(h:ar[k]?=some (some ⟨sz,xs,ver,st⟩)):
  ahK (some (some [.tsl k ver 0])) w 0 t ts K env ⟨bs,fz,ar⟩=sQ ts K ⟨(t, .d (.aP [.slice false xs]))::env,⟨bs,w::fz,ar.set k (some ⟨sz,xs,ver,2⟩)⟩⟩:=by
 have a:=(ab.1 h).1;have e:ar.modify k (ea fun A=>{A with st:=2})=ar.set k (some ⟨sz,xs,ver,2⟩):=by
  apply bS;intro i;rw[cY,bX]
  by_cases hi:k=i
  ·subst hi;rw[h];simp[a]
  ·simp[hi]
 simp[ahK,gV,anI,Ko,datum,Mem.box,hb,bT,dR,Mem.row,h,Mem.frz,lg,kK,rY,rZ,Gh,e]
def ZO {ts:List Int}:∀(k fr:Nat) (now:Int),fr<ts.length->∃x,x∈dL ts k fr now
 |0,fr,now,_=>⟨now,by simp[dL]⟩
 |k+1,fr,now,h=>by
  obtain⟨x,a⟩:=ZO k fr (now*ts.getD fr default) h;exact⟨x,by simp only[dL,bj,cg];exact⟨fr,by omega,a⟩⟩
def OE (a:r.ok=true)(k:Nat):dM r k≠[]:=by
 obtain⟨⟨h1,h2,f⟩, -⟩:=Ru.facts a;have e:=Fe r;obtain⟨x,b⟩:=ZO (ts:=r.tt) k 0 1 (by omega);have c:=AV a k 0 1 (by decide) x b;rw[bz]at c;obtain⟨p,rfl⟩:∃p:Nat,x=p:=⟨x.toNat,by omega⟩
 have g:((60 ^ k:Nat):Int)=60 ^ k:=by simp
 have d:(p:Int)∈dM r k:=by
  simp only[dM,Nu,av,cU,bA,decide_eq_true_eq];exact⟨p,⟨by omega,b⟩,rfl⟩
 exact List.ne_nil_of_mem d
def srt (k:Nat)(l:List Int)(j:Nat):List Int:=((aD j).filter fun(x:Nat)=>decide ((x:Int)∈l)).map fun(x:Nat)=>(x:Int)
def apW (k:Nat)(l:List Int)(j:Nat):srt k l (j+1)=srt k l j++bif decide ((j:Int)∈l)then[(j:Int)]else[]:=by
 rw[srt,bR,dj,aR,srt]
 congr 1
 by_cases h:(j:Int)∈l
 ·rw[List.filter_cons_of_pos (by simpa using h),decide_eq_true h];rfl
 ·rw[List.filter_cons_of_neg (by simpa using h),decide_eq_false h];rfl
def adS (k:Nat)(l:List Int)(j:Nat):(srt k l j).length<=j:=by
 rw[srt,W];exact d6 (cj _ _) (by simp)
def Ob {j:Nat}(l:List Int)(h:j<60 ^ k+1):(marksOf k l).getD j default=decide ((j:Int)∈l):=by
 rw[ao,marksOf,bt,bL h];rfl
def aoK {nb na:Nat}{a:List (Nat×PV)}{m e:Mem}{α:Type}{len i t:Nat}{d:DV}{E:Nat->α->St}{P:Nat->α->Prop}(c:α)(hi:i<len)(hd:datum m (Go.Am.look env t)=some d)(h1:a=(t, .d d)::env)(h2:e=m.frz [Go.Am.look env t])(hs:(⟨a,e⟩:St)=E (i+1) c)(g:P (i+1) c):
  ∃f b,f<len - i/\Weak nb na ⟨env,m⟩ b/\upJ len E P f b:=by
 subst h1;subst h2;exact⟨len - (i+1),_,by omega, .inr (.inr ⟨t,d,hd,rfl⟩),i+1,c,by omega,rfl,hs,g⟩
def akZ {xs:List DV}(h:ar[k]?=some (some ⟨sz,xs,ver,st⟩)):(⟨bs,fz,ar⟩:Mem).frz [.tsl k ver 0]=⟨bs,fz,ar.set k (some ⟨sz,xs,ver,2⟩)⟩:=by
 have a:=(ab.1 h).1;have e:ar.modify k (ea fun A=>{A with st:=2})=ar.set k (some ⟨sz,xs,ver,2⟩):=by
  apply bS;intro i;rw[cY,bX]
  by_cases hi:k=i
  ·subst hi;rw[h];simp[a]
  ·simp[hi]
 simp[Mem.frz,lg,kK,Gh,e]
def acu (r:Ru)(hr:r.ok=true):Pure C 65 [r.dv6] (.d r.wdv) []:=by
 obtain⟨⟨h1,h2,h3⟩,h4,h5⟩:=Ru.facts hr;refine bM (aB Ci ajh ?_);have e1:ee .i64 (r.pr+1)=(r.wn:Int):=by rw[aF (by omega)];simp[Ru.wn];omega
 rw[zI,Ru.wdv];simp only[Ci,ajh,lX,e1,RN,H,J,S,V];refine aG r.wn (fun i (M:Mem)=>⟨[(1, .d (.aP [dI r.lo,dI r.hi,dI r.pr,dI 1, .slice false [],sF (r.tt.map ay)])),(2, .ptr 1 0),(3, .ptr 2 0),(15,pI r.wn),(16,pI i)],M⟩)
  (fun i M=>∃cs P,Ee r i cs P M) 0 _ (az _) rfl ⟨.d (.slice true []), .d (.slice true []),rfl, .inl ⟨rfl,rfl⟩, .inl ⟨rfl,rfl⟩,(fun _ h=>by cases h),(by simp),rfl,(by simp),(by intro i hi;simp at hi⊢;omega)⟩ (fun i M g1 E=> ?_) (fun M E=> ?_)
 ·obtain⟨cs,P,E⟩:=E
  obtain⟨b,f,a⟩:=M;obtain⟨g2,g3,g6⟩:=rng g1 (by rw[Ru.wn];omega);simp only[g2,RN,H,J,V];have hN:=aiS i;have bj:i<=3:=by rw[Ru.wn]at g1;omega
  have hp:=SX bj;have a9:=Ou (am i 60) (by simp;omega) (fun x hx=>by rw[cG hx];decide) (by rw[hN];omega);rw[hN,show(am i (60:Int)).map ay=am i (dI 60) by simp[ay]]at a9;obtain⟨n,hn⟩:∃n:Nat,(60:Int) ^ i=n:=⟨60 ^ i,by simp⟩
  have ao:60 ^ i=n:=by
   have:((60 ^ i:Nat):Int)=n:=by simpa using hn
   omega
  rw[hn]at a9 hp;have w1:ee .i64 ((n:Int)+1)=((n+1:Nat):Int):=by rw[aF (by omega)];omega
  have n0:(0:Int)<=((n+1:Nat):Int):=by omega
  have n1:((n+1:Nat):Int)<=1048576:=by omega
  have hz:DV.fits 1 (.bool false)=true:=rfl;have bk:=E.fzb;have bt:b.length∉f:=fun e=>bE _ (bk _ e)
  refine⟨rfl,?_⟩;refine mF rfl rfl (ad9 60 i (by omega)) (by simp) ?_;simp only[PV.shift,jw,a7,cf,cP];refine KZ (k:=a.length) (ver:=0) (skip:=0) (sz:=1) (st:=1) (xs:=am i (dI 60)) (by simp) a9 rfl ?_;simp only[w1,YL,n0,n1,hz,ae,aX,bJ,br,ai,dJ,dO,bt,RN,U,V];rw[<-df];obtain⟨k,hk⟩:∃k,k=a.length+1:=⟨_,rfl⟩
  rw[<-hk];obtain⟨w,hw⟩:∃w,w=b.length:=⟨_,rfl⟩
  obtain⟨B,hB⟩:∃B,B=b++ [some [PV.tsl k 0 0]]:=⟨_,rfl⟩
  obtain⟨A,hA⟩:∃A,A=a++ [some ⟨1,am i (dI 60),0,1⟩,some ⟨1,am (n+1) (DV.bool false),0,1⟩]:=⟨_,rfl⟩
  simp only[<-hw,<-hB,<-hA];have G:∀j,kOf cs=some j\/kOf P=some j->j≠k:=by
   intro j u e;have:=u.elim (Ba E.s) (Ba E.m);simp only at this;omega
  have a5:Ee r i cs P ⟨B,f,A⟩:=by
   refine⟨?_,?_,?_,E.dif,E.nb,?_,E.ob,?_⟩
   ·have:=E.box;simp only at this⊢
    rw[hB,ap (ab.1 this).1];exact this
   ·exact iK E.s fun j X _ h=>by simp only at h⊢;rw[hA,ap (ab.1 h).1];exact h
   ·exact iK E.m fun j X _ h=>by simp only at h⊢;rw[hA,ap (ab.1 h).1];exact h
   ·have:=E.out;simp only at this⊢
    rw[hB,ap (ab.1 this).1];exact this
   ·intro j u;have:=bk j u;simp only at this⊢;rw[hB,ai];omega
  have ce:B.length=w+1:=by rw[hB,hw];simp
  have b4:A[k]?=some (some ⟨1,(marksOf i []).map .bool,0,1⟩):=by
   rw[hA,hk,afK,ao];simp
  have b5:B[w]?=some (some [PV.tsl k 0 0]):=by rw[hB,hw];simp
  have bw:=alO r i;rw[zI]at bw;refine ak bw ?_;refine oI (acv r hr i bj) (fun _ h=>h) rfl (by kernel_rfl) a5.fzb (fun x hx=>by obtain⟨i,_,rfl⟩:=av.1 hx;rfl) (fun _ h=>h.elim) (fun _ _=>trivial)
   (fun be M=>∃l:List Int,be=l.map iDV/\Ee r i cs P M/\M.boxes[w]?=some (some [PV.tsl k 0 0])/\w∉M.fz/\M.aC[k]?=some (some ⟨1,(marksOf i l).map .bool,0,1⟩)) ?_ ⟨[],rfl,a5,b5,by rw[hw];exact bt,b4⟩ ?_ ?_
  ·rintro be M1 M2 hm ⟨l,rfl,m1,Z,m3,m4⟩
   refine⟨l,rfl,m1.moved (n:=B.length) (by have:=(ab.1 a5.box).1;simpa using this) hm,(hm.box w (by simp only;omega) id).trans Z,fun h=>m3 ((hm.fz w (by simp only;omega) id).1 h),by rw[hm.aC];exact m4⟩
  ·rintro L cells be x post ⟨b1,f1,a1⟩ hx a0 a3 bu ⟨l,rfl,m1,Z,m3,m4⟩ M0
   simp only at a0 a3 bu Z m3 m4⊢;obtain⟨v,hv,rfl⟩:∃v,v∈dL r.tt i 0 1/\iDV v=x:=by
    have:x∈(dL r.tt i 0 1).map iDV:=by rw[hx];simp
    simpa using this
   obtain⟨v1,v2⟩:=AV hr i 0 1 (by decide) v hv;rw[bz,hn]at v2;obtain⟨q,rfl⟩:∃q:Nat,v=q:=⟨v.toNat,by omega⟩
   have bs:(marksOf i l).length=n+1:=by rw[Oc,ao]
   have bA:q<(marksOf i l).length:=by omega
   have q1:(0:Int)<=(q:Int):=by omega
   have bB:w<b1.length:=(ab.1 Z).1;have ca:k<a1.length:=(ab.1 m4).1;simp only[kE,iDV,b8,ch,Z,m4,q1,bA,ae,W,b6,RN,H,V];have hg:((marksOf i l).map DV.bool).getD q default= .bool ((marksOf i l).getD q default):=getD_map bA;refine rF (ds:=[.bool true]) m4 rfl (by decide) rfl rfl (by rw[hg];exact aw 1) ?_;rw[hg];have K:((marksOf i l).map DV.bool).set q (setCells (.bool ((marksOf i l).getD q default)) 0 [.bool true])=(marksOf i (l++ [(q:Int)])).map .bool:=by
    show((marksOf i l).map DV.bool).set q (DV.bool true)=_
    rw[<-afJ,d5]
   rw[K];refine⟨a3,bu,⟨aw _,by simp,fun _ _ _=>rfl,fun _ _ _=>eb,fun _ h=>h.elim,fun h=>h⟩,l++ [(q:Int)],by simp[iDV],?_,Z,m3,by simp[ca]⟩;refine⟨m1.box,iK m1.s fun j X u D=> ?_,iK m1.m fun j X u D=> ?_,m1.dif,m1.nb,m1.out,m1.ob,m1.fzb⟩
   ·rw[aq (Ne.symm (G j (.inl u)))];exact D
   ·rw[aq (Ne.symm (G j (.inr u)))];exact D
  ·rintro⟨b1,f1,a1⟩ ⟨l,hl,m1,Z,m3,m4⟩ a0
   have hl:l=dL r.tt i 0 1:=by
    have:=congrArg (d9 fun x:List DV=>match x with| [.int _ n]=>n| _=>0) hl
    simpa[iDV,dl]using this.symm
   subst hl;simp only at Z m3 m4;have bB:w<b1.length:=(ab.1 Z).1;(try simp only[RN,H]);rw[Z,akW Z m4];obtain⟨L,hL⟩:∃L,L=dL r.tt i 0 1:=⟨_,rfl⟩
   have bs:(marksOf i L).length=n+1:=by rw[Oc,ao]
   have cb:marksOf i L=zW r i:=by rw[hL,zW]
   rw[<-hL]at m4;have cj:2<w:=by
    have:=(ab.1 E.box).1;simp only at this;omega
   have a6:Ee r i cs P ⟨b1,w::f1,a1.set k (some ⟨1,(marksOf i L).map .bool,0,2⟩)⟩:=by
    refine⟨m1.box,iK m1.s fun j X u D=> ?_,iK m1.m fun j X u D=> ?_,m1.dif,?_,m1.out,?_,?_⟩
    ·rw[aq (Ne.symm (G j (.inl u)))];exact D
    ·rw[aq (Ne.symm (G j (.inr u)))];exact D
    ·intro h
     rcases bl.1 h with h|h
     ·omega
     ·exact m1.nb h
    ·intro h
     rcases bl.1 h with h|h
     ·omega
     ·exact m1.ob h
    ·intro j u
     rcases bl.1 u with rfl|h
     ·exact bB
     ·exact m1.fzb j h
   rw[<-hL];obtain⟨a2,b7⟩:∃a2,a2=a1.set k (some ⟨1,(marksOf i L).map .bool,0,2⟩):=⟨_,rfl⟩
   rw[<-b7]at a6⊢;obtain⟨f2,b9⟩:∃f2,f2=w::f1:=⟨_,rfl⟩
   rw[<-b9]at a6⊢;simp only[W,bs,RN,H,V];have n2:(n:Int)+1=((n+1:Nat):Int):=by omega
   obtain⟨o,F⟩:∃o:Nat->PV->List (Nat×PV),o=fun(j:Nat) (c:PV)=>[(1, .d (.aP [dI r.lo,dI r.hi,dI r.pr,dI 1, .slice false [],sF (r.tt.map ay)])),(2, .ptr 1 0),(3, .ptr 2 0),(5, .d (.aP [sF ((marksOf i L).map .bool)])),(7,c),(15,pI r.wn),(16,pI i),(32, .d (sF ((marksOf i L).map .bool))),(33, .d (dI ((n+1:Nat):Int))),(34,pI j)]:=⟨_,rfl⟩
   obtain⟨PP,Q⟩:∃PP:Nat->List (Nat×PV)×Mem->Prop,PP=fun j q=>∃c ar,q.2=⟨b1,f2,ar⟩/\Ee r i cs P ⟨b1,f2,ar⟩/\((j<n+1/\q.1=o j c/\slN 1 false c ((srt i L j).map ay) ar/\(∀N,kOf c=some N->kOf cs≠some N/\kOf P≠some N))\/(j=n+1/\q.1=(7, .d (sF ((srt i L j).map ay)))::o j c)):=⟨_,rfl⟩
   have bi:srt i L (n+1)=dM r i:=by rw[<-ao,hL];rfl
   refine aG (n+1) (fun j (q:List (Nat×PV)×Mem)=>⟨q.1,q.2⟩) PP 0 (o 0 (.d (.slice true [])),⟨b1,f2,a2⟩) (az _) (by rw[F];rfl)
    (by rw[Q];exact⟨.d (.slice true []),a2,rfl,a6, .inl ⟨by omega,rfl, .inl ⟨rfl,rfl⟩,fun _ h=>by cases h⟩⟩) (fun j q j1 Y=> ?_) (fun q Y=> ?_)
   ·have R:∀(c':PV) (O:List (Option Arr)),slN 1 false c' ((srt i L (j+1)).map ay) O->(∀N,kOf c'=some N->kOf cs≠some N/\kOf P≠some N)->Ee r i cs P ⟨b1,f2,O⟩->
      ∃n' bL,n'<n+1 - j/\Weak 0 0 ⟨o (j+1) c',⟨b1,f2,O⟩⟩ bL/\upJ (n+1) (fun j (q:List (Nat×PV)×Mem)=>(⟨q.1,q.2⟩:St)) PP n' bL:=by
     intro c' O h1 h2 h3
     by_cases e:j+1=n+1
     ·obtain⟨I,ver,st,rfl,z, -, -⟩:=uX h1 (by rw[e,bi];intro h;exact OE hr i (by simpa using h))
      have bq:Go.Am.look (o (j+1) (.tsl I ver 0)) 7= .tsl I ver 0:=by rw[F];rfl
      refine aoK (t:=7) (d:=sF ((srt i L (j+1)).map ay)) ((7, .d (sF ((srt i L (j+1)).map ay)))::o (j+1) (.tsl I ver 0),⟨b1,f2,O.set I (some ⟨1,(srt i L (j+1)).map ay,ver,2⟩)⟩) j1 (by rw[bq];simp[datum,Mem.row,z]) rfl (by rw[bq,akZ z]) rfl ?_;rw[Q];refine⟨_,_,rfl,⟨h3.box,iK h3.s fun j X u D=> ?_,iK h3.m fun j X u D=> ?_,h3.dif,h3.nb,h3.out,h3.ob,h3.fzb⟩, .inr ⟨e,rfl⟩⟩
      ·rw[aq (by rintro rfl;exact(h2 _ rfl).1 u)];exact D
      ·rw[aq (by rintro rfl;exact(h2 _ rfl).2 u)];exact D
     ·exact dH (o (j+1) c',⟨b1,f2,O⟩) j1 rfl (by rw[Q];exact⟨_,_,rfl,h3, .inl ⟨by omega,rfl,h1,h2⟩⟩)
    obtain⟨q1,q2⟩:=q;rw[Q]at Y;obtain⟨c,ar,e2,g,Y⟩:=Y;simp only at e2 Y;subst e2
    rcases Y with⟨-,e1,bc,a8⟩|⟨e, -⟩
    case inr=>omega
    subst e1;rw[F]at R⊢;obtain⟨j2,j3,j6⟩:=rng j1 (by omega);have bo:j<(marksOf i L).length:=by omega
    have an:=Ob (k:=i) (j:=j) L (by omega);have aM:=apW i L j;have cg:=adS i L j;obtain⟨o1,o2,o3⟩:=CB bc;cases hb:decide ((j:Int)∈L)
    ·rw[hb]at an aM
     simp only[j2,j3,bo,W,getD_map,ae,an,jm,j6,RN,H,V];refine R c ar ?_ a8 g;rw[aM];simpa using bc
    ·rw[hb]at an aM
     simp only[j2,j3,bo,W,getD_map,ae,an,jm,gB,DV.strip,fU,RN,H,V];refine wY bc (by decide) (by intro y hy;simp only[aL]at hy;subst hy;rfl) (by simp) (by simp;omega) fun I ver st ac s1 s2 s3 s4 s5 _=> ?_
     simp only[j6];have z:∀N,kOf cs=some N\/kOf P=some N->N≠I:=by
      intro N h e;subst e;have G:=h.elim (Ba g.s) (Ba g.m);simp only at G
      rcases s1 with s1|s1
      ·exact h.elim (a8 _ s1).1 (a8 _ s1).2
      ·omega
     refine R (.tsl I ver 0) ac (.inr ⟨I,ver,st,rfl,by rw[aM,aR];exact s2,s5,by simp⟩) (fun N h=> ?_) ⟨g.box,iK g.s fun j X u D=> ?_,iK g.m fun j X u D=> ?_,g.dif,g.nb,g.out,g.ob,g.fzb⟩
     ·cases h
      exact⟨fun h=>z _ (.inl h) rfl,fun h=>z _ (.inr h) rfl⟩
     ·simp only at D⊢;rw[s3 j (z j (.inl u)) (ab.1 D).1];exact D
     ·simp only at D⊢;rw[s3 j (z j (.inr u)) (ab.1 D).1];exact D
   ·obtain⟨q1,q2⟩:=q
    rw[Q]at Y;obtain⟨c,ar,e2,g,Y⟩:=Y;simp only at e2 Y;subst e2
    rcases Y with⟨e, -⟩|⟨-,e1⟩
    ·omega
    subst e1;rw[F];have p:=g.box;have afq:=g.nb;simp only at p afq;have a4:=(ab.1 p).1;obtain⟨o1,o2,o3⟩:=CB g.s;obtain⟨p1,p2,p3⟩:=CB g.m;have bX:∀xs:List DV,(DV.slice false xs).cells.length=1:=fun _=>rfl
    have dst:∀xs:List DV,(DV.slice false xs).strip= .slice false xs:=fun _=>rfl
    simp only[aE,p,a4,bX,dst,eq_self,RN,H,J,V];refine wY g.s (by decide) (by intro y hy;simp only[aL]at hy;subst hy;rfl) (by simp) (by simp;omega) fun I ap2 bN ac s1 s2 s3 s4 s5 _=> ?_
    have cc:slN 1 false P ((aD i).map (mDV r)) ac:=iK g.m fun j X u D=>by
     have G:=(ab.1 D).1;simp only at D G⊢;rw[s3 j (by rintro rfl;rcases s1 with s1|s1;exact g.dif _ s1 u;omega) G];exact D
    simp only[p,RN,J,V];refine wY cc (by decide) (by intro y hy;simp only[aL]at hy;subst hy;rfl) (by simp) (by simp;omega) fun k2 UF bO bS t1 t2 t3 t4 t5 _=> ?_
    have K:∀X,(b1.set 2 X)[2]?=some X:=fun X=>ax a4
    simp only[p,afq,dJ,dO,K,dm,g6,RN,J,V];have z:I<ac.length:=(ab.1 s2).1;have bh:I≠k2:=by
     rintro rfl
     rcases t1 with t1|t1
     ·rcases s1 with s1|s1
      ·exact g.dif _ s1 t1
      ·have:=Ba g.m t1;simp only at this;omega
     ·omega
    refine dH (⟨b1.set 2 _,f2,bS⟩:Mem) g1 rfl ⟨.tsl I ap2 0, .tsl k2 UF 0,K _, .inr ⟨I,ap2,bN,rfl,?_,s5,by simp⟩, .inr ⟨k2,UF,bO,rfl,?_,t5,by simp⟩,?_,afq,?_,g.ob,?_⟩
    ·simp only;rw[t3 I bh z,s2,bR,aR,bi];rfl
    ·simp only;rw[t2,bR,aR,cb];rfl
    ·intro N h h'
     cases h;cases h';exact bh rfl
    ·have:=g.out;simp only at this⊢;rw[aq (by decide)];exact this
    ·intro j u;have:=g.fzb j u;simpa using this
 ·obtain⟨cs,P,E⟩:=E
  obtain⟨b,f,a⟩:=M;have p:=E.box;have T:=E.out;have bv:=E.ob;simp only at p T bv;have a4:=(ab.1 p).1;have b0:=(ab.1 T).1;obtain⟨I,v1,bN,rfl,z, -, -⟩:=uX E.s (by simp[Ru.wn]);obtain⟨k2,v2,bO,rfl,bp, -, -⟩:=uX E.m (by simp[Ru.wn]);simp only at z bp;simp only[aE,p,T,bv,gQ,dO,bD,dy,dD,ax b0,RN,H,J,V];simp[datum,bT,dR,Mem.row,z,bp]
def ady (x T:Int)(f:Fr)(h1:0<=x*f.n/\x*f.n<=4000000000000000000):Pure C 198 [dI x,dI T, .aP [dI f.n,dI f.d]] (.d (dI (Bl (x*f.n) T))) []:=by
 have a:ee .i64 (x*f.n)=x*f.n:=aF (by omega);refine ah uN wJ ?_;simp only[uN,wJ,a,RN,H,J,V];exact ak (Le _ _) rfl
structure agD (xs:List Int) (a T:Int) (p:Nat):Prop where
 le:p<=xs.length
 lt:∀k,k<p->xs.getD k default*a<T
 ge:∀k,p<=k->k<xs.length->T<=xs.getD k default*a
def aaP (xs:List Int)(T:Int)(f:Fr)(p:Nat)(hl:xs.length<=1000000)(hb:∀x∈xs,0<=x*f.n/\x*f.n<=4000000000000000000)(r:agD xs f.n T p):∃b,Pure C 197 [sF (xs.map ay),dI T, .func (.func 198) [] [.aP [dI f.n,dI f.d]]] (.d (.tup [dI p, .bool b])) []:=by
 refine⟨decide (p<xs.length)&&(Bl (xs.getD p default*f.n) T==0),?_⟩;refine ah lY P6 ?_;simp only[lY,P6,W,RN,H,J];refine kN (fun q:Nat×Nat=>⟨[(0, .d (sF (xs.map ay))),(1,pI T),(2, .d (.func (.func 198) [] [.aP [dI f.n,dI f.d]])),(8,pI xs.length),(9,pI q.1),(10,pI q.2)],⟨[],[],[]⟩⟩)
  (fun q=>q.1<=p/\p<=q.2/\q.2<=xs.length) (fun q=>q.2 - q.1) (0,xs.length) rfl ⟨az _,r.le,aw _⟩ ?_
 rintro⟨a,b⟩ ⟨v,j,k⟩;simp only at v j k⊢
 by_cases l:a<b
 ·have c:(a:Int)<b:=by omega
  have hh:=half a b l (by omega);obtain⟨h,o⟩:∃h,h=(a+b) / 2:=⟨_,rfl⟩
  rw[<-o]at hh;have t:h<xs.length:=by omega
  have w:(0:Int)<=(h:Int):=by omega
  have y:ee .i64 ((h:Int)+1)=((h+1:Nat):Int):=by rw[aF (by omega)];omega
  have m:=ady (xs.getD h default) T f (hb _ (getD_mem t));simp only[c,abq,hh,t,w,W,getD_map,ae,aW,RN,H,V];refine⟨by decide,?_⟩;refine ig rfl (by kernel_rfl) rfl m ?_
  by_cases i:xs.getD h default*f.n<T
  ·have s:Bl (xs.getD h default*f.n) T<0:=by rw[Bl,if_pos i];decide
   simp only[s,y,RN,H];refine rO (μ:=fun q:Nat×Nat=>q.2 - q.1) (a:=(a,b)) (h+1,b) (by simp only;omega) rfl ⟨?_,j,k⟩;simp only;refine Nat.lt_of_not_le fun g=> ?_
   have:=r.ge h g t;omega
  ·have s:¬Bl (xs.getD h default*f.n) T<0:=by rw[Bl,if_neg i];split<;>decide
   simp only[s,RN,H];refine rO (μ:=fun q:Nat×Nat=>q.2 - q.1) (a:=(a,b)) (a,h) (by simp only;omega) rfl ⟨v,?_,by simp only;omega⟩;simp only;refine Nat.le_of_not_lt fun g=> ?_
   exact i (r.lt h g)
 ·have c:¬(a:Int)<b:=by omega
  obtain rfl:a=p:=by omega
  by_cases e:a<xs.length
  ·have u:(a:Int)<(xs.length:Int):=by omega
   have z:(0:Int)<=(a:Int):=by omega
   have m:=ady (xs.getD a default) T f (hb _ (getD_mem e));simp only[c,u,z,e,W,getD_map,ae,aW,RN,H,V];refine ig rfl (by kernel_rfl) rfl m ?_;simp only[RN]
  ·have u:¬(a:Int)<(xs.length:Int):=by omega
   simp only[c,u,e,decide_false,dC,RN,H]
def Yl (r:Ru)(k:Nat)(x:Fr):Prop:=∃n:Nat,1<=n/\(n:Int)*x.n∈dL r.tt k 0 1/\(n:Int)*x.d∈dL r.tt k 0 1
def Ls:r.wdv= .agg [dI r.lo,dI r.hi,dI r.pr,dI 1, .slice false [],sF (r.tt.map ay),sF ((aD r.wn).map (sDV r)),sF ((aD r.wn).map (mDV r))]:=by rw[Ru.wdv]
def aoW (r:Ru)(k:Nat)(x:Fr)(S:r.ok=true)(hk:k<r.wn)(h1:1<=x.n/\x.n<=1000000000)(h2:1<=x.d/\x.d<=1000000000):∃b,(b=true↔Yl r k x)/\Pure C 201 [r.wdv,dI k,x.dv] (.d (.bool b)) []:=by
 classical
 refine⟨decide (Yl r k x),by simp,?_⟩;obtain⟨-,r1,r2⟩:=Ru.facts S;have L:k<=3:=by rw[Ru.wn]at hk;omega
 have hp:=SX L;obtain⟨N,R⟩:∃N:Nat,N=60 ^ k:=⟨_,rfl⟩
 have E:(60:Int) ^ k=N:=by rw[R];simp
 rw[E]at hp;have F:∀y∈dL r.tt k 0 1,1<=y/\y<=N:=fun y hy=>by
  have:=AV S k 0 1 (by decide) y hy;rw[bz,E]at this;exact this
 refine ah zh jv ?_;rw[Ls,aS];have k1:(k:Int)<(r.wn:Int):=by omega
 have k2:(0:Int)<=(k:Int):=by omega
 have hg:((aD r.wn).map (mDV r)).getD k default=sF ((zW r k).map .bool):=by
  rw[ao,bt,bL hk];rfl
 simp only[zh,jv,k2,hk,W,ce,ae,hg,RN,H,J,V];refine⟨rfl,aw 1,?_⟩;obtain⟨a,c⟩:∃a,a=if x.d>x.n then x.d else x.n:=⟨_,rfl⟩
 have s:x.n<=a/\x.d<=a/\a<=1000000000:=by rw[c];split<;>omega
 have l:(zW r k).length=N+1:=by rw[zW,Oc,R]
 have G:∀n:Nat,((n:Int)*a>=((N+1:Nat):Int))->¬((n:Int)*x.n∈dL r.tt k 0 1/\(n:Int)*x.d∈dL r.tt k 0 1):=by
  rintro n z ⟨B,D⟩;have b1:=(F _ B).2;have b2:=(F _ D).2;rw[c]at z
  split at z<;>omega
 refine aG (N+1) (fun i (_:Unit)=>⟨[(5, .d (.aP [dI x.n,dI x.d])),(7, .d (sF ((zW r k).map .bool))),(8, .d (dI ((i+1:Nat):Int)))],⟨[some [pI r.lo,pI r.hi,pI r.pr,pI 1, .d (.slice false []), .d (sF (r.tt.map ay)), .d (sF ((aD r.wn).map (sDV r))), .d (sF ((aD r.wn).map (mDV r)))],some [pI x.n,pI x.d]],[1,0],[]⟩⟩)
  (fun i _=>∀n:Nat,1<=n->n<=i->¬((n:Int)*x.n∈dL r.tt k 0 1/\(n:Int)*x.d∈dL r.tt k 0 1)) 0 () (az _) rfl (fun n h1 h2=>by omega) (fun i _ Q j=> ?_) (fun _ j=> ?_)
 ·obtain⟨n,z⟩:∃n,n=i+1:=⟨_,rfl⟩
  rw[<-z];have n1:1<=n:=by omega
  have b1:=a8 (show(n:Int)<=216001 by omega) s.2.2 (by omega) (by omega);have b2:=bc s.1 (show(0:Int)<=n by omega);have b3:=bc s.2.1 (show(0:Int)<=n by omega);have b4:=ca (show(0:Int)<=n by omega) (show 0<=x.n by omega);have b5:=ca (show(0:Int)<=n by omega) (show 0<=x.d by omega);have A:ee .i64 ((n:Int)*a)=(n:Int)*a:=aF (by omega);have w1:ee .i64 ((n:Int)*x.n)=(n:Int)*x.n:=aF (by omega);have P:ee .i64 ((n:Int)*x.d)=(n:Int)*x.d:=aF (by omega);have X:ee .i64 ((n:Int)+1)=((n+1:Nat):Int):=by rw[aF (by omega)];omega
  by_cases f:(n:Int)*a<((N+1:Nat):Int)
  ·obtain⟨p,g⟩:∃p:Nat,(n:Int)*x.n=p:=⟨((n:Int)*x.n).toNat,by omega⟩
   obtain⟨q,o⟩:∃q:Nat,(n:Int)*x.d=q:=⟨((n:Int)*x.d).toNat,by omega⟩
   have p1:(p:Int)<((N+1:Nat):Int):=by omega
   have q1:(q:Int)<((N+1:Nat):Int):=by omega
   have M:(0:Int)<=(p:Int):=by omega
   have T:(0:Int)<=(q:Int):=by omega
   have O:p<N+1:=by omega
   have U:q<N+1:=by omega
   have mp:(zW r k).getD p default=decide ((p:Int)∈dL r.tt k 0 1):=Ob _ (by omega);have mq:(zW r k).getD q default=decide ((q:Int)∈dL r.tt k 0 1):=Ob _ (by omega);have I:((zW r k).map DV.bool).getD p default= .bool (decide ((p:Int)∈dL r.tt k 0 1)):=by rw[getD_map (by omega),mp]
   have K:((zW r k).map DV.bool).getD q default= .bool (decide ((q:Int)∈dL r.tt k 0 1)):=by rw[getD_map (by omega),mq]
   rw[g]at w1;rw[o]at P;obtain⟨Y,v⟩:∃b,b=decide ((p:Int)∈dL r.tt k 0 1):=⟨_,rfl⟩
   obtain⟨Z,w⟩:∃b,b=decide ((q:Int)∈dL r.tt k 0 1):=⟨_,rfl⟩
   rw[<-v]at I;rw[<-w]at K;cases Y
   ·have B:=of_decide_eq_false v.symm
    simp only[wu,<-c,A,l,W,f,w1,g,M,O,ae,I,jm,X,RN,H,J,V];refine dH () Q (by rw[z]) (fun m t u=> ?_)
    by_cases e:m=n
    ·subst e;rw[g];exact fun h=>B h.1
    ·exact j m t (by omega)
   ·have B:=of_decide_eq_true v.symm
    cases Z
    ·have D:=of_decide_eq_false w.symm
     simp only[wu,<-c,A,l,W,f,w1,P,g,o,M,O,T,U,ae,I,K,jm,X,RN,H,J,V];refine dH () Q (by rw[z]) (fun m t u=> ?_)
     by_cases e:m=n
     ·subst e;rw[o];exact fun h=>D h.2
     ·exact j m t (by omega)
    ·have D:=of_decide_eq_true w.symm
     simp only[wu,<-c,A,l,W,f,w1,P,g,o,M,O,T,U,ae,I,K,jm,RN,H,J,V];have hc:Yl r k x:=⟨n,n1,by rw[g];exact B,by rw[o];exact D⟩
     rw[decide_eq_true hc]
  ·simp only[wu,<-c,A,l,W,f,RN,H,J,V]
   rw[decide_eq_false];rintro⟨m,t,u⟩
   by_cases e:m<=i
   ·exact j m t e u
   ·have:=bo (show(n:Int)<=m by omega) (show 0<=a by omega)
    exact G m (by omega) u
 ·have f:¬(((N+1+1:Nat):Int)*a<((N+1:Nat):Int)):=by
   have:=bc (show 1<=a by omega) (show(0:Int)<=((N+1+1:Nat):Int) by omega);omega
  have b1:=a8 (show((N+1+1:Nat):Int)<=216002 by omega) s.2.2 (by omega) (by omega);have b2:=ca (show(0:Int)<=((N+1+1:Nat):Int) by omega) (show 0<=a by omega);have A:ee .i64 (((N+1+1:Nat):Int)*a)=((N+1+1:Nat):Int)*a:=aF (by omega);simp only[wu,<-c,A,l,W,f,RN,H,J,V];rw[decide_eq_false];rintro⟨m,t,u⟩
  by_cases e:m<=N+1
  ·exact j m t e u
  ·have:=bo (show((N+1+1:Nat):Int)<=m by omega) (show 0<=a by omega)
   exact G m (by omega) u
def Ot:∀(l:List Int) (p:Int),bZ l p=p*bZ l 1
 | [],p=>by simp[bZ]
 |x::l,p=>by rw[bZ,bZ,Ot l (p*x),Ot l (1*x),bz,bk]
def jd (x:Int)(l:List Int):bZ (x::l) 1=x*bZ l 1:=by rw[bZ,Ot,bz]
def KE {l c:List Int}(h:l.Perm c):bZ l 1=bZ c 1:=by
 induction h with
 |nil=>rfl
 |cons x _ d=>rw[jd,jd,d]
 |swap x y l=>rw[jd,jd,jd,jd,<-bk,<-bk,b9 x y]
 |trans _ _ a b=>exact a.trans b
def Ia {ts:List Int}:∀(k fr:Nat) (now x:Int),x∈dL ts k fr now->∃ds:List Int,ds.length=k/\(∀d∈ds,d∈ts)/\x=now*bZ ds 1
 |0,fr,now,x,h=>by
  simp only[dL,aL]at h;exact⟨[],rfl,by simp,by simp[bZ,h]⟩
 |k+1,fr,now,x,h=>by
  simp only[dL,bj,cg]at h;obtain⟨i,⟨_,hi⟩,b⟩:=h;obtain⟨ds,h1,h2,a⟩:=Ia k i _ x b;refine⟨ts.getD i default::ds,by simp[h1],?_,?_⟩
  ·intro d hd
   rcases bl.1 hd with rfl|hd
   ·exact getD_mem (by omega)
   ·exact h2 d hd
  ·rw[a,jd,bk]
def ZN {ts:List Int}:∀(a:List Nat) (fr:Nat) (now:Int),a.Pairwise (·<=·)->(∀i∈a,fr<=i/\i<ts.length)->now*bZ (a.map fun i=>ts.getD i default) 1∈dL ts a.length fr now
 | [],fr,now,_,_=>by simp[dL,bZ]
 |i::a,fr,now,d,b=>by
  obtain⟨h1,h2⟩:=dk.1 d;obtain⟨b1,b2⟩:=b i (by simp);have:=ZN a i (now*ts.getD i default) h2 (fun j c=>⟨h1 j c,(b j (by simp[c])).2⟩);rw[aM,dL,a7,jd,<-bk];simp only[bj,cg];exact⟨i,by omega,this⟩
def I4 (ds:List Int)(h:∀d∈ds,d∈r.tt):bZ ds 1∈dL r.tt ds.length 0 1:=by
 have j:∀d∈ds,(d - r.lo).toNat<r.tt.length/\r.tt.getD (d - r.lo).toNat default=d:=by
  intro d hd;have n:=qG.1 (h d hd);have m:=Fe r;have k:(d - r.lo).toNat<r.tt.length:=by omega
  exact⟨k,by rw[Iw k];omega⟩
 obtain⟨f,g⟩:∃f,f=(ds.map fun d=>(d - r.lo).toNat).mergeSort:=⟨_,rfl⟩
 have l:f.Perm (ds.map fun d=>(d - r.lo).toNat):=by rw[g];exact List.mergeSort_perm _ _
 have e:f.Pairwise (·<=·):=by
  rw[g];have:=List.pairwise_mergeSort (le:=fun a b:Nat=>decide (a<=b)) (by intro a b c;simp;omega) (by intro a b;simp;omega) (ds.map fun d=>(d - r.lo).toNat)
  simpa using this
 have m:f.length=ds.length:=by rw[l.length_eq,W]
 have:=ZN (ts:=r.tt) f 0 1 e (fun i hi=>by
  obtain⟨d,hd,rfl⟩:=av.1 (l.mem_iff.1 hi);exact⟨az _,(j d hd).1⟩)
 rw[m,bz,KE (l.map _),d0]at this;rw[show(ds.map ((fun i=>r.tt.getD i default)∘fun d=>(d - r.lo).toNat))=ds by
  conv=>rhs;rw[<-List.map_id ds]
  exact List.map_congr_left fun d hd=>(j d hd).2]at this
 exact this
structure o9 (r:Ru) (m:Nat) (x:Fr) (t:List Pr):Prop where
 len:t.length=m
 rng:∀p∈t,p.a∈r.tt/\p.b∈r.tt
 rat:x.n*bZ (t.map (·.b)) 1=x.d*bZ (t.map (·.a)) 1
def ajZ:∀(ds es:List Int),ds.length=es.length->(cM Pr.mk ds es).map (·.a)=ds/\(cM Pr.mk ds es).map (·.b)=es
 | [],[],_=>⟨rfl,rfl⟩
 |d::ds,e::es,h=>by
  obtain⟨h1,h2⟩:=ajZ ds es (by simpa using h);exact⟨by simp only[cN,a7,h1],by simp only[cN,a7,h2]⟩
variable{m:Nat}{x:Fr}
def UK (h:Yl r m x):∃t,o9 r m x t:=by
 obtain⟨n,l,h1,h2⟩:=h;obtain⟨ds,k,g,c⟩:=Ia _ _ _ _ h1;obtain⟨es,b1,b2,b3⟩:=Ia _ _ _ _ h2;obtain⟨z1,f⟩:=ajZ ds es (by omega);refine⟨cM Pr.mk ds es,by simp;omega,fun p e=> ?_,?_⟩
 ·have i:p.a∈ds:=by rw[<-z1];exact b7 e
  have j:p.b∈es:=by rw[<-f];exact b7 e
  exact⟨g _ i,b2 _ j⟩
 ·rw[z1,f]
  rw[bz]at c b3;rw[<-c,<-b3,cB];rw[cB x.d,b9 x.n x.d]
def IZ:∀(l:List Int),(∀x∈l,1<=x)->1<=bZ l 1
 | [],_=>by simp[bZ]
 |x::l,h=>by
  rw[jd];have:=a8 (h x (by simp)) (IZ l fun y a=>h y (by simp[a])) (by decide) (by have:=h x (by simp);omega);omega
variable{t:List Pr}
def aeU (s:r.ok=true)(h:o9 r m x t)(h1:1<=x.n)(h2:1<=x.d)(hc:dc x.n x.d=1):Yl r m x:=by
 obtain⟨⟨u,v,w⟩, -⟩:=Ru.facts s;have f:=I4 (r:=r) (t.map (·.a)) (fun d hd=>by obtain⟨p,c,rfl⟩:=av.1 hd;exact(h.rng p c).1);have g:=I4 (r:=r) (t.map (·.b)) (fun d hd=>by obtain⟨p,c,rfl⟩:=av.1 hd;exact(h.rng p c).2);rw[W,h.len]at f g;have l:=IZ (t.map (·.a)) (fun d hd=>by obtain⟨p,c,rfl⟩:=av.1 hd;have:=qG.1 (h.rng p c).1;omega);have WM:=h.rat;obtain⟨A,j⟩:∃A,A=bZ (t.map (·.a)) 1:=⟨_,rfl⟩
 obtain⟨B,k⟩:∃B,B=bZ (t.map (·.b)) 1:=⟨_,rfl⟩
 rw[<-j]at f l WM;rw[<-k]at g WM;have hd:x.n∣A:=by
  have:x.n∣x.d*A:=⟨B,WM.symm⟩
  rw[<-cV,Int.natAbs_mul]at this;rw[<-cV];exact Nat.Coprime.dvd_of_dvd_mul_left hc this
 obtain⟨n,i⟩:=hd;have o:B=x.d*n:=by
  rw[i,cB]at WM;exact cz (by omega) WM
 have q:1<=n:=by
  by_cases e:1<=n
  ·exact e
  ·have:=bc (show n<=0 by omega) (show 0<=x.n by omega)
   omega
 refine⟨n.toNat,by omega,?_,?_⟩
 ·rw[show((n.toNat:Nat):Int)=n by omega,b9,<-i];exact f
 ·rw[show((n.toNat:Nat):Int)=n by omega,b9,<-o];exact g
def ZY (u v:Nat)(hv:0<v):∃g:Int,1<=g/\(u:Int)=g*(lJ u v).n/\(v:Int)=g*(lJ u v).d:=by
 refine⟨(ec u v:Nat),by have:=cH u hv;omega,?_,?_⟩
 ·have:=dg (dr u v)
  simp only[lJ];rw[<-cR,this]
 ·have:=dg (Nat.gcd_dvd_right u v)
  simp only[lJ];rw[<-cR,this]
def ZX (u v:Nat)(hv:0<v):dc (lJ u v).n (lJ u v).d=1:=by
 simp only[lJ,dc,di];exact Nat.gcd_div_gcd_div_gcd_of_pos_right hv
def mJ (now:List Pr)(p:Pr):Bool:=now.isEmpty||decide (0<=sU p (now.getD (now.length - 1) default))
def tH (left:Fr)(p:Pr):Fr:=lJ (left.n*p.b).natAbs (left.d*p.a).natAbs
variable{p:Pr}
def KL (h1:1<=x.n)(h2:1<=x.d)(l:1<=p.a)(hb:1<=p.b):(1<=(tH x p).n/\(tH x p).n<=x.n*p.b)/\(1<=(tH x p).d/\(tH x p).d<=x.d*p.a)/\dc (tH x p).n (tH x p).d=1/\∃g:Int,1<=g/\x.n*p.b=g*(tH x p).n/\x.d*p.a=g*(tH x p).d:=by
 have m1:=a8 h1 hb (by decide) (by omega);have o:=a8 h2 l (by decide) (by omega);have c:=ET (x.n*p.b).natAbs (x.d*p.a).natAbs (by omega);obtain⟨g,k,f,j⟩:=ZY (x.n*p.b).natAbs (x.d*p.a).natAbs (by omega);have h:((x.n*p.b).natAbs:Int)=x.n*p.b:=by omega
 have i:((x.d*p.a).natAbs:Int)=x.d*p.a:=by omega
 rw[h,i]at c;rw[h]at f;rw[i]at j;have m:1<=(tH x p).n:=by
  have:=c.1.1
  by_cases e:(lJ (x.n*p.b).natAbs (x.d*p.a).natAbs).n=0
  ·rw[e,Int.mul_zero]at f;omega
  ·simp only[tH];omega
 exact⟨⟨m,c.1.2⟩,c.2,ZX _ _ (by omega),g,k,f,j⟩
def Es (h1:1<=x.n)(h2:1<=x.d)(i:1<=p.a)(hb:1<=p.b)(j:p.a∈r.tt/\p.b∈r.tt):o9 r m (tH x p) t↔o9 r (m+1) x (p::t):=by
 obtain⟨-, -, -,g,k,e,f⟩:=KL h1 h2 i hb;have c:∀A B:Int,(tH x p).n*B=(tH x p).d*A↔x.n*(p.b*B)=x.d*(p.a*A):=by
  intro A B;rw[<-bk,<-bk,e,f,bk,bk];constructor
  ·intro h;rw[h]
  ·intro h;exact cz (by omega) h
 constructor
 ·intro h
  refine⟨by simp[h.len],fun q hq=> ?_,?_⟩
  ·rcases bl.1 hq with rfl|hq
   ·exact j
   ·exact h.rng q hq
  ·rw[a7,a7,jd,jd];exact(c _ _).1 h.rat
 ·intro h
  refine⟨by have:=h.len;simpa using this,fun q hq=>h.rng q (by simp[hq]),?_⟩;have:=h.rat;rw[a7,a7,jd,jd]at this;exact(c _ _).2 this
def o9.perm {b:List Pr}(h:o9 r m x t)(a:t.Perm b):o9 r m x b:=
 ⟨a.length_eq.symm.trans h.len,fun q c=>h.rng q (a.mem_iff.2 c),by rw[<-KE (a.map _),<-KE (a.map _)];exact h.rat⟩
def Gg (r:Ru)(m:Nat)(now:List Pr)(x:Fr)(p:Pr):Prop:=mJ now p=true/\Yl r m (tH x p)
variable{now:List Pr}
def V8 {q:Pr}(e:r.ok=true)(h1:1<=x.n)(h2:1<=x.d)(ho:∀t,o9 r (m+1) x t->∀q∈t,mJ now q=true)(h:o9 r (m+1) x t)(c:q∈t):Gg r m now x q:=by
 obtain⟨⟨u,v,w⟩, -⟩:=Ru.facts e;have a:=h.rng q c;have o:=qG.1 a.1;have s:=qG.1 a.2;obtain⟨f,b⟩:=List.append_of_mem c;obtain⟨b,rfl⟩:=b;have l:(f++q::b).Perm (q::(f++b)):=List.perm_middle;have k:=(Es h1 h2 (by omega) (by omega) a).2 (h.perm l);obtain⟨g,i,j, -⟩:=KL (p:=q) h1 h2 (by omega) (by omega);exact⟨ho _ h q c,aeU e k g.1 i.1 j⟩
def adB (i:r.ok=true)(h1:1<=x.n)(h2:1<=x.d)(ho:∀t,o9 r (m+1) x t->∀q∈t,mJ now q=true)(f:p.a∈r.tt/\p.b∈r.tt)
  (c:∀q:Pr,q.a∈r.tt->q.b∈r.tt->Gg r m now x q->0<=sU q p):∀t,o9 r m (tH x p) t->∀q∈t,mJ (now++ [p]) q=true:=by
 obtain⟨⟨o,s,u⟩, -⟩:=Ru.facts i;intro t j q h;have k:=qG.1 f.1;have l:=qG.1 f.2;have g:=(Es h1 h2 (by omega) (by omega) f).1 j;have e:=g.rng q (by simp[h]);have:=c q e.1 e.2 (V8 i h1 h2 ho g (by simp[h]));simp[mJ,List.getD,this]
def aeP (xs:List DV)(hf:∀y∈xs,y.fits 2=true)(hl:xs.length<=1000000):Pure C 202 [.slice false xs] (.tsl 0 0 0) [⟨2,xs,0,0⟩]:=by
 refine eU dA aI ?_;simp only[dA,aI,RN,H,U];refine⟨fun _=> ?_,fun a b=> ?_⟩
 ·(try simp only[RN,H,J,O,S,U,V])
  exact⟨hf,by simp,by simp,by omega,gJ (k:=1) (A:=⟨2,xs,0,0⟩) rfl rfl (az _) rfl⟩
 ·subst a
  cases b
  ·(try simp only[RN,H,U,V])
   (repeat(refine ed (by first|assumption|rfl|(simp;done)|(simp;omega)) ?_))
   exact gJ (k:=1) (A:=⟨2,[],0,0⟩) rfl rfl (az _) rfl
  ·(try simp only[RN,H,U])
   exact gJ (k:=1) (A:=⟨2,[],0,0⟩) rfl rfl (az _) rfl
open Classical in
noncomputable def firstT (r:Ru):Nat->List Pr->Fr->List Pr
 |0,_,_=>[]
 |m+1,now,x=>match(r.tt.flatMap fun a=>r.tt.map fun b=>(⟨a,b⟩:Pr)).find? (fun p=>decide (Gg r m now x p))with
  |some p=>p::firstT r m (now++ [p]) (tH x p)
  |none=>[]
variable{r:Ru}{now:List Pr}{x:Fr}
def YQ:firstT r 0 now x=[]:=rfl
variable{m i:Nat}
def ahF {j:Nat}(hi:i<r.tt.length)(o:j<r.tt.length)(h1:∀a∈r.tt.take i,∀b∈r.tt,¬Gg r m now x ⟨a,b⟩)(h2:∀b∈r.tt.take j,¬Gg r m now x ⟨r.tt.getD i default,b⟩)(h:Gg r m now x ⟨r.tt.getD i default,r.tt.getD j default⟩):
  firstT r (m+1) now x=⟨r.tt.getD i default,r.tt.getD j default⟩::firstT r m (now++ [⟨r.tt.getD i default,r.tt.getD j default⟩]) (tH x ⟨r.tt.getD i default,r.tt.getD j default⟩):=by
 have e:∀(l:List Int) (k:Nat),k<l.length->l=l.take k++l.getD k default::l.drop (k+1):=fun l k q=>by rw[<-drop_cons q,cX]
 have n:(r.tt.flatMap fun a=>r.tt.map fun b=>(⟨a,b⟩:Pr)).find? (fun p=> @decide (Gg r m now x p) (Classical.propDecidable _))=some ⟨r.tt.getD i default,r.tt.getD j default⟩:=by
  obtain⟨row,c⟩:∃row:Int->List Pr,row=fun a=>r.tt.map fun b=>(⟨a,b⟩:Pr):=⟨_,rfl⟩
  rw[<-c];rw[show r.tt.flatMap row=(r.tt.take i).flatMap row++(row (r.tt.getD i default)++(r.tt.drop (i+1)).flatMap row) from
   (congrArg (fun l=>List.flatMap row l) (e r.tt i hi)).trans (by simp only[List.flatMap_append,cD])]
  rw[cC,cw.2,dE,cC]
  ·rw[show row (r.tt.getD i default)=(r.tt.take j).map (fun b=>(⟨r.tt.getD i default,b⟩:Pr))++(⟨r.tt.getD i default,r.tt.getD j default⟩::(r.tt.drop (j+1)).map fun b=>(⟨r.tt.getD i default,b⟩:Pr)) by
    rw[c];exact(congrArg (fun l=>d9 (fun b=>(⟨r.tt.getD i default,b⟩:Pr)) l) (e r.tt j o)).trans (by simp only[aR,a7])]
   rw[cC,cw.2,dE,List.find?_cons_of_pos]
   ·rfl
   ·simpa using h
   ·intro p d
    obtain⟨b,f,rfl⟩:=av.1 d
    simpa using h2 b f
  ·intro p d
   rw[c]at d;simp only[bj,av]at d;obtain⟨a,g,b,f,rfl⟩:=d
   simpa using h1 a g b f
 rw[firstT,n]
def firstFn (r:Ru)(k:Nat)(bw:Nat):PV:= .func (.func 200) [] [.d (.aP [dI k]), .d (.aP [dI r.lo,dI r.hi,dI r.pr,dI 1, .slice false [],sF (r.tt.map ay),sF ((aD r.wn).map (sDV r)),sF ((aD r.wn).map (mDV r))]), .ptr bw 0]
def adY {x:Int}(h:i<r.tt.length)(hx:x∈r.tt)(hl:x<r.tt.getD i default):x∈r.tt.take i:=by
 have d:=qG.1 hx;have c:=Fe r;rw[Iw h]at hl;have a:(x - r.lo).toNat<r.tt.length:=by omega
 have b:=Iw a;rw[List.mem_take_iff_getElem];refine⟨(x - r.lo).toNat,by omega,?_⟩;rw[ao,a6 a,cJ]at b;rw[b];omega
def EM {p q:Pr}(h:q.a<p.a\/p.a=q.a/\q.b<=p.b):0<=sU p q:=by
 rcases h with h|⟨h1,h2⟩
 ·have e:Bl p.a q.a=1:=by rw[Bl,if_neg (by omega),if_pos h]
  simp[sU,orL,e]
 ·have e:Bl p.a q.a=0:=by rw[Bl,if_neg (by omega),if_neg (by omega)]
  have c:0<=Bl p.b q.b:=by rw[Bl,if_neg (by omega)];split<;>decide
  simp only[sU,orL,e,if_true]
  split<;>omega
def am6 (a:r.ok=true)(e:m<=3)(h1:1<=x.n)(h2:1<=x.d)(h:Yl r m x):x.n<=216000/\x.d<=216000:=by
 obtain⟨n,i,b,c⟩:=h;have b1:=(AV a m 0 1 (by decide) _ b).2;have b2:=(AV a m 0 1 (by decide) _ c).2;have j:=SX e;have f:=bo (show(1:Int)<=n by omega) (show 0<=x.n by omega);have g:=bo (show(1:Int)<=n by omega) (show 0<=x.d by omega);omega
def Z4 (a b:Nat)(h:0<a)(h2:0<b):1<=(lJ a b).n:=by
 have:0<a / ec a b:=Nat.div_pos (Nat.le_of_dvd h (dr a b)) (cH _ h2);exact Int.ofNat_le.2 this
def afd (r:Ru)(hr:r.ok=true)(k bw:Nat)(hk:k<r.wn){KP:DV->Mem->Prop}:∀(m:Nat) (now:List Pr) (left:Fr) (ex:Bool) (M:Mem),now.length+m=k->(1<=left.n/\left.n<=216000)->(1<=left.d/\left.d<=216000)->M.boxes[bw]?=some (some [firstFn r k bw])->FzB M->(∃t,o9 r m left t)->(∀t,o9 r m left t->∀q∈t,mJ now q=true)->
  SC C 200 [.d (.slice ex (now.map Pr.dv)), .d left.dv, .d (.aP [dI k]), .d (.aP [dI r.lo,dI r.hi,dI r.pr,dI 1, .slice false [],sF (r.tt.map ay),sF ((aD r.wn).map (sDV r)),sF ((aD r.wn).map (mDV r))]), .ptr bw 0] M
   (fun p M'=>Frm M M'/\o9 r m left (firstT r m now left)/\p= .d (.slice (match m with|0=>ex| _+1=>false) ((now++firstT r m now left).map Pr.dv))) KP:=by
 obtain⟨⟨q1,q2,q3⟩,q4,q5⟩:=Ru.facts hr;have cc:=Fe r;have b6:k<=3:=by rw[Ru.wn]at hk;omega
 intro m
 induction m with
 |zero=>
  rintro now left ex ⟨bs,fz,ar⟩ hm hn hd ac s ⟨t0,c⟩ w;have bN:bs.length∉fz:=fun e=>bE _ (s _ e)
  refine aB jE XB ?_;rw[aS];have z:(((now.length:Nat):Int)==(k:Int))=true:=by simp;omega
  simp only[jE,XB,aX,bJ,ai,W,z,RN,H,J,V];have ht:t0=[]:=cp c.len;exact⟨Frm.new (xf:=[bs.length]) (by simp),by rw[YQ,<-ht];exact c,by rw[YQ,cT]⟩
 |succ m ih=>
  rintro now left ex ⟨bs,fz,ar⟩ hm hn hd ac s ⟨t0,c⟩ w;have bN:bs.length∉fz:=fun e=>bE _ (s _ e)
  refine aB jE XB ?_;rw[aS];have z:(((now.length:Nat):Int)==(k:Int))=false:=by simp;omega
  simp only[jE,XB,aX,bJ,ai,W,z,RN,H,J,V];have ax:¬∀a∈r.tt,∀b∈r.tt,¬Gg r m now left ⟨a,b⟩:=by
   intro h
   match t0,c with
   | [],c=>have:=c.len;simp at this
   |q::t1,c=>
    have bj:=c.rng q (by simp);exact h _ bj.1 _ bj.2 (V8 hr hn.1 hd.1 w c (by simp))
  obtain⟨P,o⟩:∃P:Mem,P=⟨bs,fz,ar⟩:=⟨_,rfl⟩
  have bt:Frm P ⟨bs++ [some [pI left.n,pI left.d]],bs.length::fz,ar⟩:=by rw[o];exact Frm.new (xf:=[bs.length]) (by simp)
  rw[<-o];refine aG r.tt.length (fun i (M:Mem)=>⟨[(0, .d (.slice ex (now.map Pr.dv))),(2, .d (.aP [dI k])),(3, .d (.aP [dI r.lo,dI r.hi,dI r.pr,dI 1, .slice false [],sF (r.tt.map ay),sF ((aD r.wn).map (sDV r)),sF ((aD r.wn).map (mDV r))])),(4, .ptr bw 0),(6, .d (.aP [dI left.n,dI left.d])),(22, .d (sF (r.tt.map ay))),(23,pI r.tt.length),(24,pI i)],M⟩)
   (fun i M=>Frm P M/\∀a∈r.tt.take i,∀b∈r.tt,¬Gg r m now left ⟨a,b⟩) 0 _ (az _) rfl ⟨bt,fun _ h=>by simp at h⟩ (fun i M E X=> ?_) (fun M X=> ?_)
  ·obtain⟨R,g⟩:=X
   obtain⟨g2,g3,g6⟩:=rng E (by omega);obtain⟨a,I⟩:∃a,a=r.tt.getD i default:=⟨_,rfl⟩
   have bu:4<=a/\a<=60:=by rw[I,Iw E];omega
   have v:(∀b∈r.tt,¬Gg r m now left ⟨a,b⟩)->∀a∈r.tt.take (i+1),∀b∈r.tt,¬Gg r m now left ⟨a,b⟩:=by
    intro h a1 h1 b1 h2;rw[bf E,cr,aL,<-I]at h1
    rcases h1 with h1|rfl
    ·exact g a1 h1 b1 h2
    ·exact h b1 h2
   simp only[g2,g3,E,getD_map,ae,W,aW,<-I,RN,H,J,V];refine aG r.tt.length (fun j (M:Mem)=>⟨[(0, .d (.slice ex (now.map Pr.dv))),(2, .d (.aP [dI k])),(3, .d (.aP [dI r.lo,dI r.hi,dI r.pr,dI 1, .slice false [],sF (r.tt.map ay),sF ((aD r.wn).map (sDV r)),sF ((aD r.wn).map (mDV r))])),(4, .ptr bw 0),(6, .d (.aP [dI left.n,dI left.d])),(9,pI a),(22, .d (sF (r.tt.map ay))),(23,pI r.tt.length),(24,pI i),(30, .d (sF (r.tt.map ay))),(31,pI r.tt.length),(32,pI j)],M⟩)
    (fun j M=>Frm P M/\∀b∈r.tt.take j,¬Gg r m now left ⟨a,b⟩) 0 _ (az _) rfl ⟨R,fun _ h=>by simp at h⟩ (fun j M h1 X=> ?_) (fun M X=> ?_)
   ·obtain⟨R,l⟩:=X
    obtain⟨D,Q,G⟩:=M;obtain⟨h2,h3,h6⟩:=rng h1 (by omega);obtain⟨b,Z⟩:∃b,b=r.tt.getD j default:=⟨_,rfl⟩
    have bv:4<=b/\b<=60:=by rw[Z,Iw h1];omega
    have a9:¬Gg r m now left ⟨a,b⟩->∀b∈r.tt.take (j+1),¬Gg r m now left ⟨a,b⟩:=by
     intro h b1 h2;rw[bf h1,cr,aL,<-Z]at h2
     rcases h2 with h2|rfl
     ·exact l b1 h2
     ·exact h
    have N:=R.fzb (by rw[o];exact s);have aqA:D.length∉Q:=fun e=>bE _ (N _ e)
    simp only[h2,h3,h1,getD_map,ae,W,aW,<-Z,aX,bJ,ai,aqA,RN,H,J,V];obtain⟨B,hB⟩:∃B,B=D++ [some [PV.d (dI a),pI b]]:=⟨_,rfl⟩
    have T:Frm P ⟨B,D.length::Q,G⟩:=by rw[hB];exact R.trans (Frm.new (xf:=[D.length]) (by simp))
    have u:(0<now.length)->mJ now ⟨a,b⟩=decide (0<=sU ⟨a,b⟩ (now.getD (now.length - 1) default)):=fun h=>by
     rw[mJ,show now.isEmpty=false by cases now with|nil=>cases h|cons=>rfl,cF]
    have L:=N7 ⟨a,b⟩ (now.getD (now.length - 1) default);rw[dW,dW]at L;obtain⟨x,hx⟩:∃x,x=tH left ⟨a,b⟩:=⟨_,rfl⟩
    have b7:=a8 hn.2 bv.2 (by omega) (by omega);have b8:=a8 hd.2 bu.2 (by omega) (by omega);have b9:=a8 hn.1 (show(1:Int)<=b by omega) (by omega) (by omega);have ca:=a8 hd.1 (show(1:Int)<=a by omega) (by omega) (by omega);obtain⟨na,a5⟩:∃na:Nat,left.n*b=na:=⟨(left.n*b).toNat,by omega⟩
    obtain⟨nd,a6⟩:∃nd:Nat,left.d*a=nd:=⟨(left.d*a).toNat,by omega⟩
    have w1:ee .i64 (left.n*b)=(na:Int):=by rw[aF (by omega)];exact a5
    have w2:ee .i64 (left.d*a)=(nd:Int):=by rw[aF (by omega)];exact a6
    have bo:lJ na nd=x:=by
     rw[hx,tH];simp only;rw[a5,a6];rfl
    have abL:=Ov na nd (by omega) (by omega) (by omega);have b4:=ET na nd (by omega);rw[bo]at abL b4;have am:=Z4 na nd (by omega) (by omega);rw[bo]at am;obtain⟨cb,ao,K⟩:=aoW r m x hr (by omega) (by omega) (by omega);rw[Ls,aS]at K;rw[aS]at abL;have w3:ee .i64 (ee .i64 ((k:Int) - (now.length:Int)) - 1)=(m:Int):=by
     rw[aF (n:=(k:Int) - (now.length:Int)) (by omega),aF (by omega)];omega
    have an4:∀b1,(0<now.length)->mJ now ⟨a,b1⟩=decide (0<=sU ⟨a,b1⟩ (now.getD (now.length - 1) default)):=fun b1 h=>by
     rw[mJ,show now.isEmpty=false by cases now with|nil=>cases h|cons=>rfl,cF]
    by_cases aqB:now.length=0
    case' pos=>
     have bc:mJ now ⟨a,b⟩=true:=by rw[mJ,List.isEmpty_iff_length_eq_zero.2 aqB];rfl
     have c0:¬((now.length:Nat):Int)>0:=by omega
     simp only[c0,w1,w2,<-hB,RN,H,J,V]
    case' neg=>
     have c0:((now.length:Nat):Int)>0:=by omega
     have c1:ee .i64 (((now.length:Nat):Int) - 1)=((now.length - 1:Nat):Int):=by rw[aF (by omega)];omega
     have c2:(((now.length - 1:Nat):Int)<((now.length:Nat):Int)):=by omega
     have c3:(0:Int)<=((now.length - 1:Nat):Int):=by omega
     have c4:now.length - 1<now.length:=by omega
     simp only[c0,c1,c3,c4,W,getD_map,ae,dW,<-hB,RN,H,J,V];refine ak L ?_
     by_cases hp:sU ⟨a,b⟩ (now.getD (now.length - 1) default)<0
     ·have a3:mJ now ⟨a,b⟩=false:=by rw[u (by omega)];exact decide_eq_false (by omega)
      by_cases Y:a<(now.getD (now.length - 1) default).a
      ·simp only[hp,Y,c1,c3,c4,W,getD_map,ae,dW,g6,RN,H,J,V]
       refine dH _ E rfl ⟨T,v fun b1 _ e=> ?_⟩;have:=e.1;rw[an4 b1 (by omega)]at this;have:=of_decide_eq_true this;simp only[sU,orL,Bl,if_pos Y]at this;simp at this
      ·simp only[hp,Y,c1,c3,c4,W,getD_map,ae,dW,h6,RN,H,J,V]
       exact dH _ h1 rfl ⟨T,a9 fun e=>by have:=e.1;rw[a3]at this;cases this⟩
     have bc:mJ now ⟨a,b⟩=true:=by rw[u (by omega)];exact decide_eq_true (by omega)
     simp only[hp,w1,w2,RN,H,J,V]
    all_goals
     have b5:B.length=D.length+1:=by rw[hB];simp
     have bq:B.length∉D.length::Q:=fun e=>by
      rcases bl.1 e with e|e
      ·omega
      ·have:=N _ e;simp only at this;omega
     refine ak abL ?_;simp only[aX,bJ,ai,bq,W,w3,RN,H,J,V];refine ak K ?_;have F:Frm P ⟨B++ [some [PV.d (dI x.n),pI x.d]],B.length::D.length::Q,G⟩:=T.trans (Frm.new (xf:=[B.length]) (by simp));cases cb
     case false=>
      have bX:¬Yl r m x:=fun e=>by have:=ao.2 e;cases this
      simp only[h6,RN,H];exact dH _ h1 rfl ⟨F,a9 fun e=>bX (by rw[hx];exact e.2)⟩
     case true=>
      have A:=ao.1 rfl;have bA:Gg r m now left ⟨a,b⟩:=⟨bc,by rw[<-hx];exact A⟩
      have f:(B++ [some [PV.d (dI x.n),pI x.d]])[bw]?=some (some [firstFn r k bw]):=
       (F.box bw (by rw[o];exact(ab.1 ac).1)).trans (by rw[o];exact ac)
      have bz:=(ab.1 f).1;have bp:=am6 hr (by omega) am (show 1<=x.d by omega) A;have WJ:=F.fzb (by rw[o];exact s);have bL:∀y∈now.map Pr.dv,y.fits 2=true:=by intro y hy;simp only[av]at hy;obtain⟨z,_,rfl⟩:=hy;rfl
      have be:a∈r.tt:=by rw[I];exact getD_mem E
      have bh:b∈r.tt:=by rw[Z];exact getD_mem h1
      have a4:∀q:Pr,q.a∈r.tt->q.b∈r.tt->Gg r m now left q->0<=sU q ⟨a,b⟩:=by
       intro q b0 bi hq;have e1:¬q.a<a:=fun h=>g q.a (adY E b0 (by rw[<-I];exact h)) q.b bi hq
       by_cases e2:q.a=a
       ·have e3:¬q.b<b:=fun h=>l q.b (adY h1 bi (by rw[<-Z];exact h)) (by rw[<-e2];exact hq)
        exact EM (.inr ⟨e2,Int.not_lt.1 e3⟩)
       ·exact EM (.inl (by simp only;omega))
      have aM:=adB hr hn.1 hd.1 w (p:=⟨a,b⟩) ⟨be,bh⟩ a4;rw[<-hx]at aM;rw[firstFn]at f;simp only[f,bz,RN,H,J,V];refine mF rfl rfl (aeP (now.map Pr.dv) bL (by simp;omega)) (by simp) ?_;simp only[PV.shift,jw,a7,cf,cP];refine⟨rfl,?_⟩;refine Qp (k:=G.length) (xs:=now.map Pr.dv) (ver:=0) (st:=0) (skip:=0) (by simp) (by decide) (by decide) (by intro y hy;simp only[aL]at hy;subst hy;rfl) (by simp;omega) ?_;have bS:(now.map Pr.dv).drop 0++ [(DV.agg [dI a,dI b]).strip]=(now++ [(⟨a,b⟩:Pr)]).map Pr.dv:=by
       rw[cv,aR];rfl
      rw[bS];have an:Frm ⟨B++ [some [PV.d (dI x.n),pI x.d]],B.length::D.length::Q,G⟩ ⟨B++ [some [PV.d (dI x.n),pI x.d]],B.length::D.length::Q,(G++ [some (⟨2,now.map Pr.dv,0,0⟩:Arr)]).set G.length (some ⟨2,(now++ [(⟨a,b⟩:Pr)]).map Pr.dv,0+1,2⟩)⟩:=
       ⟨aw _,by simp,fun _ _=>rfl,fun _ _=>eb,fun j hj=>by simp only at hj⊢;rw[aq (by omega),ap hj],fun h=>h⟩
      have a0:=ih (now++ [(⟨a,b⟩:Pr)]) x false ⟨B++ [some [PV.d (dI x.n),pI x.d]],B.length::D.length::Q,(G++ [some (⟨2,now.map Pr.dv,0,0⟩:Arr)]).set G.length (some ⟨2,(now++ [(⟨a,b⟩:Pr)]).map Pr.dv,0+1,2⟩)⟩ (by simp;omega) ⟨am,bp.1⟩ ⟨by omega,bp.2⟩ (by rw[firstFn];exact f) (an.fzb WJ) (UK A) aM;rw[aS]at a0;refine qI (args:=[_,_]) (cs:=[_,_,_]) (by kernel_rfl) ?_;refine SC.mono a0 ?_;rintro p ⟨b2,f2,a2⟩ ⟨hf,ht,rfl⟩;obtain⟨t,bk⟩:∃t,t=firstT r m (now++ [(⟨a,b⟩:Pr)]) x:=⟨_,rfl⟩
      have apd:firstT r (m+1) now left=⟨a,b⟩::t:=by
       have:=ahF (m:=m) (now:=now) (x:=left) E h1 g (by rw[<-I];exact l) (by rw[<-I,<-Z];exact bA);rw[<-I,<-Z,<-hx,<-bk]at this;exact this
      rw[<-bk]at ht⊢;have bR:((now++ [(⟨a,b⟩:Pr)])++t).map Pr.dv≠[]:=by simp
      have bB:=(Es (p:=⟨a,b⟩) hn.1 hd.1 (by simp only;omega) (by simp only;omega) ⟨be,bh⟩).1 (by rw[<-hx];exact ht);(try simp only[RN,H]);refine⟨fun _=> ?_,fun e=>absurd e bR⟩;(try simp only[RN,H,J,O,S,U,V]);refine⟨(F.trans an).trans hf,by rw[apd];exact bB,?_⟩;rw[apd,br,List.singleton_append];cases m<;>rfl
   ·obtain⟨R,l⟩:=X
    rw[bO]at l;simp only[aE,g6,RN,H];exact dH _ E rfl ⟨R,v l⟩
  ·obtain⟨R,g⟩:=X
   rw[bO]at g;exact absurd g ax
def akR (r:Ru)(e:r.ok=true)(k:Nat)(hk:k+1<r.wn)(x:Fr)(h1:1<=x.n/\x.n<=216000)(h2:1<=x.d/\x.d<=216000)(hc:∃t,o9 r (k+1) x t):
  Pure C 135 [r.wdv,dI ((k+1:Nat):Int),x.dv] (.d (sF ((firstT r (k+1) [] x).map Pr.dv))) []:=by
 refine bM (aB vW jv ?_);have c:=fun ex M a b=>afd r e (k+1) 3 hk (KP:=fun _ _=>False) (k+1) [] x ex M (by simp) h1 h2 a b hc (fun _ _ _ _=>rfl)
 rw[aS]at c;rw[Ls,aS];simp only[vW,jv,lX,cells_func,GY,kQ,RN,H,J,S,V];refine qI (args:=[_,_]) (cs:=[_,_,_]) (by kernel_rfl) ?_;refine SC.kU (SC.mono (c true _ ?_ ?_) ?_) (fun _ _ h=>h.elim)
 ·rw[firstFn];rfl
 ·intro i hi;simp at hi⊢;omega
 ·rintro p ⟨b2,g,f⟩ ⟨j,l,rfl⟩
  simp only[List.nil_append]
  rfl
def Bc (b:r.ok=true){k:Nat}{x:Int}:x∈dM r k↔x∈dL r.tt k 0 1:=by
 simp only[dM,Nu,av,cU,bA,decide_eq_true_eq];constructor
 ·rintro⟨p,⟨_,h⟩,rfl⟩;exact h
 ·intro h
  have a:=AV b k 0 1 (by decide) x h;rw[bz]at a;have c:((60 ^ k:Nat):Int)=60 ^ k:=by simp
  exact⟨x.toNat,⟨by omega,by rw[show((x.toNat:Nat):Int)=x by omega];exact h⟩,by omega⟩
def Qa (r:Ru)(k:Nat):aj8 (dM r k):=by
 have h:(dM r k).Pairwise (·<=·):=by
  rw[dM,Nu,cE];refine List.Pairwise.imp ?_ (List.Pairwise.filter _ cL);intro a b h;omega
 intro i j d c;rw[ao,ao,a6 c,a6 (by omega),cJ,cJ]
 by_cases e:i=j
 ·subst e;exact cA _
 ·exact List.pairwise_iff_getElem.1 h i j (by omega) c (by omega)
def tJ (a:r.ok=true){k:Nat}(hk:k<=3){x:Int}(h:x∈dM r k):1<=x/\x<=216000:=by
 have b:=AV a k 0 1 (by decide) x ((Bc a).1 h);have:=SX hk;rw[bz]at b;omega
def TU (r:Ru){k:Nat}(hk:k<=3):(dM r k).length<=216001:=by
 have h1:=adS k (dL r.tt k 0 1) (60 ^ k+1);have h2:=SX hk;have b:((60 ^ k:Nat):Int)=60 ^ k:=by simp
 have a:dM r k=srt k (dL r.tt k 0 1) (60 ^ k+1):=rfl;rw[a];omega
def Lh (xs:List Fr)(v:Fr)(hl:xs.length<=1000000):Pure C 199 [sF (xs.map Fr.dv),v.dv] (.d (.bool (xs.contains v))) []:=by
 have hi:Pure C 257 [sF (xs.map Fr.dv),v.dv] (pI (idx v xs 0)) []:=by
  refine ah dB aH ?_;rw[aS];simp only[dB,aH,W,RN,H,J];refine aG xs.length (fun i (_:Unit)=>⟨[(0, .d (sF (xs.map Fr.dv))),(3, .d (.aP [dI v.n,dI v.d])),(7,pI xs.length),(8,pI i)],⟨[some [pI v.n,pI v.d]],[0],[]⟩⟩) (fun i _=>idx v xs 0=idx v (xs.drop i) i) 0 () (az _) rfl rfl (fun i _ h1 f=> ?_) (fun _ f=> ?_)
  ·obtain⟨h2,j,k⟩:=rng h1 hl
   rw[drop_cons h1,idx]at f;obtain⟨x,h⟩:∃x,x=xs.getD i default:=⟨_,rfl⟩
   rw[<-h]at f;have e:(((v.n==x.n)&&(v.d==x.d)) !=false)=decide (v=x):=by
    obtain⟨a,b⟩:=v;obtain⟨c,d⟩:=x;rw[KW,du];simp
   cases g:decide (v=x)
   ·rw[g]at e
    simp only[h2,j,h1,k,iD,aS,getD_map,ae,W,<-h,e,RN,H,J,V];exact dh () h1 rfl (by rw[if_neg (of_decide_eq_false g)]at f;exact f) (by simp) (by simp) rfl rfl
   ·rw[g]at e
    simp only[h2,j,h1,iD,aS,getD_map,ae,W,<-h,e,RN,H,J,V];rw[f,if_pos (of_decide_eq_true g)]
  ·rw[dp,idx]at f
   simp only[aE,f,RN,H]
 refine ah jK aH ?_;rw[aS]at hi⊢;simp only[jK,aH,RN,H,J,V];refine ak hi ?_;simp only[RS,RN]
def Bd (f:Fr)(q:List Fr×Fr):Prop:=q.1≠[]->∃z:Fr,(0<=z.n/\z.n<=216000)/\(1<=z.d/\z.d<=216000)/\q.2=bF z f
variable{f y:Fr}{q:List Fr×Fr}
def Bd.step (h:Bd f q)(h1:0<=y.n/\y.n<=216000)(h2:1<=y.d/\y.d<=216000):Bd f (uw f q y):=by
 have e:uw f q y=(if q.1=[]\/fC (bF y f) q.2<0 then([y],bF y f)else if fC (bF y f) q.2=0/\y∉q.1 then(q.1++ [y],q.2)else q):=by
  rw[uw]
  by_cases a:q.1=[]\/fC (bF y f) q.2<0
  ·simp[a,zG]
  ·simp[a]
 rw[e]
 split
 ·exact fun _=>⟨y,h1,h2,rfl⟩
 ·rename_i a
  have b:q.1≠[]:=fun e=>a (.inl e)
  split
  ·exact fun _=>h b
  ·exact h
structure X6 (f:Fr) (q:List Fr×Fr) (c:PV) (M:Mem):Prop where
 b2:M.boxes[2]?=some (some [pI 0,pI 0])
 b3:M.boxes[3]?=some (some [pI q.2.n,pI q.2.d])
 n2:2∉M.fz
 n3:3∉M.fz
 s:slN 2 false c (q.1.map Fr.dv) M.aC
 fzb:FzB M
 bd:Bd f q
variable{K:PV->Mem->Prop}{base:Nat}{KP:DV->Mem->Prop}
def V6 {M:Mem}{f:FuncId}{args:List PV}{ds ds':List DV}{x:DV}(h1:bV M args=some ds)(h2:ds.map DV.strip=ds')(b:Pure C f ds' (.d x) [])(hf:yw x=true)(a:K (.d x) M):au C base (.gG f) args M K KP:=⟨ds,h1,x,h2▸b,hf,a⟩
def adz (h:q.1=[]\/fC (bF y f) q.2<0):uw f q y=([y],bF y f):=by
 simp[uw,h,zG]
def alF (h1:q.1≠[])(h2:¬fC (bF y f) q.2<0):uw f q y=if fC (bF y f) q.2=0/\y∉q.1 then(q.1++ [y],q.2)else q:=by
 simp[uw,h1,h2]
def Zm {all:List Int}:∀(l:List Int) (q:List Fr×Fr),(l.foldl (Js all f) q).1.length<=q.1.length+2*l.length:=by
 have h1:∀(q:List Fr×Fr) (y:Fr),(uw f q y).1.length<=q.1.length+1:=by
  intro q y;simp only[uw]
  split<;>split<;>simp_all<;>omega
 have h2:∀(x:Int) (q:List Fr×Fr) (i:Int),(zZ all f x q i).1.length<=q.1.length+1:=by
  intro x q i;rw[zZ]
  split
  ·exact h1 _ _
  ·omega
 intro l
 induction l with
 |nil=>intro q;simp
 |cons x l d=>
  intro q;have a:=d (Js all f q x);have b:=h2 x q ((pF all f x:Int) - 1);have c:=h2 x (zZ all f x q ((pF all f x:Int) - 1)) (pF all f x:Int);rw[dx,aM];rw[<-Js]at c;omega
def aop (r:Ru)(hr:r.ok=true)(k:Nat)(hk:k<r.wn)(f:Fr)(hf:f.ok=true):Pure C 132 [r.wdv,dI k,f.dv] (.d (.tup [sF ((pz (dM r k) f).1.map Fr.dv),(pz (dM r k) f).2.dv])) []:=by
 obtain⟨-,r1,r2⟩:=Ru.facts hr;have bw:k<=3:=by rw[Ru.wn]at hk;omega
 have hg:((aD r.wn).map (sDV r)).getD k default=sF ((dM r k).map ay):=by
  rw[ao,bt,bL hk];rfl
 have bq:=IL hf;have M:=fun x (h:x∈dM r k)=>tJ hr bw h
 have b5:=TU r bw;have u:=Qa r k;have bR:=adA (f:=f) u (fun y hy=>(M y hy).1) (OE hr k) (by omega) (by omega);obtain⟨all,bj⟩:∃all,all=dM r k:=⟨_,rfl⟩
 rw[<-bj]at hg M b5 u bR⊢;have k1:(k:Int)<(r.wn:Int):=by omega
 have k2:(0:Int)<=(k:Int):=by omega
 have b0:∀xs:List DV,(DV.slice false xs).cells=[.slice false xs]:=fun _=>rfl
 refine bM (aB xU ajj ?_);rw[Ls,aS,aS];simp only[xU,ajj,lX,k2,hk,W,ce,ae,hg,b0,aw,RN,H,J,V];refine aG all.length (fun i (q:PV×Mem)=>⟨[(5, .d (.aP [dI f.n,dI f.d])),(7, .ptr 2 0),(8,q.1),(9, .ptr 3 0),(10, .d (sF (all.map ay))),(24, .d (sF (all.map ay))),(25,pI all.length),(26,pI i)],q.2⟩)
  (fun i q=>X6 f ((all.take i).foldl (Js all f) ([],⟨0,0⟩)) q.1 q.2) 0 (.d (.slice true []),_) (az _) rfl ⟨rfl,rfl,by simp,by simp, .inl ⟨rfl,rfl⟩,by intro j hj;simp at hj⊢;omega,fun h=>absurd rfl h⟩ (fun i q g1 g=> ?_) (fun q g=> ?_)
 ·obtain⟨c,b,z,a⟩:=q
  simp only at g;obtain⟨g2,g3,g6⟩:=rng g1 (by omega);have a0:=Zm (all:=all) (f:=f) (all.take i) ([],⟨0,0⟩);obtain⟨q0,bS⟩:∃q0,q0=(all.take i).foldl (Js all f) ([],⟨0,0⟩):=⟨_,rfl⟩
  rw[<-bS]at g a0;obtain⟨x,hx⟩:∃x,x=all.getD i default:=⟨_,rfl⟩
  have ch:=M x (by rw[hx];exact getD_mem g1);obtain⟨xn,cj⟩:∃xn:Nat,x=xn:=⟨x.toNat,by omega⟩
  have m1:=a8 ch.2 bq.2.2 (by omega) (by omega);have m2:=ca (show 0<=x by omega) (show 0<=f.d by omega);have w1:ee .i64 (x*f.d)=x*f.d:=aF (by omega);have bB:∀y∈all,0<=y*f.n/\y*f.n<=4000000000000000000:=by
   intro y hy;have:=M y hy;have e1:=a8 this.2 bq.1.2 (by omega) (by omega);have e2:=ca (show 0<=y by omega) (show 0<=f.n by omega);omega
  have hP:agD all f.n (x*f.d) (pF all f x):=⟨List.findIdx_le_length,fun k hk=>SG hk,fun k h1 h2=>SE u (by omega) h1 h2⟩
  obtain⟨p,hp⟩:∃p,p=pF all f x:=⟨_,rfl⟩
  have av:(all.take (i+1)).foldl (Js all f) ([],⟨0,0⟩)=zZ all f x (zZ all f x q0 ((p:Int) - 1)) p:=by
   rw[bf g1,List.foldl_append,<-bS,<-hx,dx,List.foldl_nil,Js,hp]
  rw[<-hp]at hP;have cv:=hP.le;obtain⟨bb,b6⟩:=aaP all (x*f.d) f p (by omega) bB hP;simp only[g2,g3,g1,getD_map,ae,W,aW,<-hx,w1,RN,H,J,V];refine ak b6 ?_;have w2:ee .i64 ((p:Int) - 1)=(p:Int) - 1:=aF (by omega);have w3:ee .i64 ((all.length:Int) - 1)=(all.length:Int) - 1:=aF (by omega);simp only[w2,RN,H,J,V];obtain⟨vf,a1⟩:∃vf:Nat->Int,vf=fun j=>if j=0 then(p:Int) - 1 else p:=⟨_,rfl⟩
  obtain⟨I,E⟩:∃I:Nat->List Fr×Fr,I=fun j=>match j with|0=>q0|1=>zZ all f x q0 ((p:Int) - 1)| _=>zZ all f x (zZ all f x q0 ((p:Int) - 1)) p:=⟨_,rfl⟩
  have cb:∀j,j<2->I (j+1)=zZ all f x (I j) (vf j):=by
   intro j hj
   match j,hj with
   |0,_=>rw[E,a1];rfl
   |1,_=>rw[E,a1];rfl
  have aqJ:∀j,j<2->(I j).1.length<=1000000:=by
   intro j hj;have h1:∀(q:List Fr×Fr) (y:Fr),(uw f q y).1.length<=q.1.length+1:=by
    intro q y;simp only[uw]
    split<;>split<;>simp_all<;>omega
   have:(all.take i).length<=216001:=by simp;omega
   match j,hj with
   |0,_=>rw[E];simp only[be]at a0⊢;omega
   |1,_=>
    rw[E];simp only[be,zZ]at a0⊢
    split
    ·have:=h1 q0 (lJ x.toNat (all.getD ((p:Int) - 1).toNat default).toNat);omega
    ·omega
  refine aG 2 (fun j (q:PV×Mem)=>⟨[(5, .d (.aP [dI f.n,dI f.d])),(7, .ptr 2 0),(8,q.1),(9, .ptr 3 0),(10, .d (sF (all.map ay))),(12,pI x),(24, .d (sF (all.map ay))),(25,pI all.length),(26,pI i),(43, .d (.agg [dI ((p:Int) - 1),dI p])),(44,pI j)],q.2⟩)
   (fun j q=>X6 f (I j) q.1 q.2) 0 (c,⟨b,z,a⟩) (by decide) rfl (by rw[E];exact g) (fun j q j1 g=> ?_) (fun q g=> ?_)
  ·obtain⟨c,b,z,a⟩:=q
   simp only at g;have F:=cb j j1;have hl:=aqJ j j1;obtain⟨l,bX⟩:∃l,l=I j:=⟨_,rfl⟩
   rw[<-bX]at g F hl;obtain⟨v,hv⟩:∃v,v=vf j:=⟨_,rfl⟩
   obtain⟨q2,D⟩:∃q2,q2=I (j+1):=⟨_,rfl⟩
   rw[<-hv,<-D]at F;have jl:((j:Nat):Int)<2:=by omega
   have cn:((j:Nat):Int)<((2:Nat):Int):=by omega
   have j0:(0:Int)<=((j:Nat):Int):=by omega
   have j6:ee .i64 (((j:Nat):Int)+1)=((j+1:Nat):Int):=by rw[aF (by omega)];omega
   have h2:=g.b2;have L:=g.b3;have n2:=g.n2;have n3:=g.n3;have G:=g.s;have ac:=g.fzb;simp only at h2 L n2 n3 G;have l2:=(ab.1 h2).1;have R:=(ab.1 L).1;have b8:b.length∉z:=fun e=>bE _ (ac _ e)
   have b9:b.length+1∉z:=fun e=>by have:=ac _ e;simp only at this;omega
   have cc:¬b.length+1=b.length:=by omega
   have cg:(j=0/\v=(p:Int) - 1)\/(j=1/\v=(p:Int)):=by
    rw[hv,a1]
    rcases(show j=0\/j=1 by omega)with rfl|rfl
    ·exact .inl ⟨rfl,rfl⟩
    ·exact .inr ⟨rfl,rfl⟩
   clear hv bX
   rcases cg with⟨rfl,rfl⟩|⟨rfl,rfl⟩
   all_goals
    simp only[jl,cn,j0,ae,Nat.mul_one,W,w3,RN,H,J,O,V];refine ak (VP _ _ _) ?_;generalize am:inR _ 0 ((all.length:Int) - 1)=bi;rw[zZ,am]at F;cases bi
    ·simp only[j6,RN,H,J]
     exact dH (c,(⟨b,z,a⟩:Mem)) j1 rfl (by show X6 f (I _) _ _;rw[<-D,F];exact g)
    ·rw[if_pos rfl]at F
     simp only[inR,bN,decide_eq_true_eq,ge_iff_le]at am;obtain⟨m,hm⟩:=Int.eq_ofNat_of_zero_le am.1;have bA:m<all.length:=by omega
     have m0:(0:Int)<=(m:Int):=by omega
     rw[hm,ae]at F;obtain⟨y0,a2⟩:∃y0,y0=all.getD m default:=⟨_,rfl⟩
     have aq2:=M y0 (by rw[a2];exact getD_mem bA);obtain⟨yn,cl⟩:∃yn:Nat,y0=yn:=⟨y0.toNat,by omega⟩
     have abL:=Ov xn yn (by omega) (by omega) (by omega);have ck:=ET xn yn (by omega);rw[<-a2,show x.toNat=xn by omega,show y0.toNat=yn by omega]at F;obtain⟨y,hy⟩:∃y,y=lJ xn yn:=⟨_,rfl⟩
     rw[<-hy]at F abL ck;have o:0<=y.n/\y.n<=216000:=by omega
     have t:1<=y.d/\y.d<=216000:=by omega
     obtain⟨-, -,cr,ct⟩:=NQ o t hf;have N:=J7 y f (by omega) (by omega);have afo:=g.bd.step o t;rw[<-F]at afo;have bz:∀bs fz K,qx c ⟨bs,fz,a⟩ K=K ((l.1.map Fr.dv).length:Int):=fun _ _ _=>QA G
     obtain⟨o1,o2,o3⟩:=CB G;rw[aS]at abL N;rw[aS (p:=f),aS (p:=bF y f)]at N;simp only[hm,m0,bA,W,getD_map,ae,aW,<-a2,cl,cj,RN,H,V];refine ak abL ?_;simp only[aX,bJ,br,ai,b8,RN,H,J,V];refine ak N ?_;have a5:¬(3:Nat)=b.length:=by omega
     have a6:¬(3:Nat)=b.length+1:=by omega
     have a9:∀X,(b.set 3 X)[3]?=some X:=fun X=>ax R
     simp only[iR,mO,ai,b9,cc,bz,W,RN,H,J,V];have b7:∀v:Fr,∀w∈[DV.agg [dI v.n,dI v.d]],w.fits 2=true:=by intro v w hw;simp only[aL]at hw;subst hw;rfl
     have bp:=Lh l.1 y (by omega);have bk:=Lh [] y (by simp);have bo:=zA (bF y f) (bF y f) (Dj o t o t hf).1 (Dj o t o t hf).2;rw[aS]at bp bk;rw[aS]at bo;have anZ:∀A,FzB ⟨b++ [some [pI y.n,pI y.d],some [pI ((bF y f).n),pI ((bF y f).d)]],(b.length+1)::b.length::z,A⟩:=by
      intro A j hj;simp only[bl]at hj;simp only[ai,aM,be]
      rcases hj with rfl|rfl|hj
      ·omega
      ·omega
      ·have:=ac j hj;simp only at this;omega
     have P:2∉(b.length+1)::b.length::z:=by simp only[bl,not_or];exact⟨by omega,by omega,n2⟩
     have an1:3∉(b.length+1)::b.length::z:=by simp only[bl,not_or];exact⟨by omega,by omega,n3⟩
     have Q:q2=l->X6 f q2 c ⟨b++ [some [pI y.n,pI y.d],some [pI ((bF y f).n),pI ((bF y f).d)]],(b.length+1)::b.length::z,a⟩:=by
      intro e;refine⟨by rw[ap l2];exact h2,by rw[e,ap R];exact L,P,an1,by rw[e];exact G,anZ a,afo⟩
     by_cases he:l.1=[]
     case' pos=>
      have an:(((l.1.length:Nat):Int)==0)=true:=by rw[he];rfl
      have bc:=adz (f:=f) (y:=y) (q:=l) (.inl he);simp only[an,dG,Cm,ai,bh,L,n3,R,a5,a6,a9,RN,H,J,V]
     case' neg=>
      have an:(((l.1.length:Nat):Int)==0)=false:=by
       have:l.1.length≠0:=fun e=>he (bu.1 e)
       simp;omega
      obtain⟨zz,z1,z2,z3⟩:=g.bd he;have T:=zA (bF y f) l.2 (by rw[z3];exact(Dj o t z1 z2 hf).1) (by rw[z3];exact(Dj o t z1 z2 hf).2);rw[aS,aS]at T;simp only[an,dG,L,R,RN,H,J,V];refine ak T ?_
      by_cases hc:fC (bF y f) l.2<0
      case' pos=>
       have bc:=adz (f:=f) (y:=y) (q:=l) (.inr hc);simp only[hc,dG,Cm,ai,bh,L,n3,R,a5,a6,a9,RN,H,J,V]
      case neg=>
       have S:=alF (f:=f) (y:=y) (q:=l) he hc;simp only[hc,dG,ai,L,R,RN,H,J,V];refine ak T ?_
       by_cases hz:fC (bF y f) l.2=0
       case neg=>
        have a3:(fC (bF y f) l.2==0)=false:=beq_eq_false_iff_ne.2 hz;simp only[a3,ai,j6,RN,H,J];exact dH (c,(⟨_,_,a⟩:Mem)) j1 rfl (by show X6 f (I _) _ _;rw[<-D];exact Q (by rw[F,S,if_neg (fun h=>hz h.1)]))
       have a3:(fC (bF y f) l.2==0)=true:=by rw[hz];rfl
       simp only[a3,RN,H,J,V];obtain⟨b4,Z⟩:=agc (bs:=b++ [some [pI y.n,pI y.d],some [pI ((bF y f).n),pI ((bF y f).d)]]) (fz:=(b.length+1)::b.length::z) G;refine V6 (ds:=[.slice b4 (l.1.map Fr.dv), .agg [dI y.n,dI y.d]]) (by simp only[bV,Z];rfl) rfl bp rfl ?_
       by_cases B:y∈l.1
       case pos=>
        have Y:l.1.contains y=true:=cW.2 B;simp only[Y,ai,j6,RN,H,J];exact dH (c,(⟨_,_,a⟩:Mem)) j1 rfl (by show X6 f (I _) _ _;rw[<-D];exact Q (by rw[F,S,if_neg (fun h=>h.2 B)]))
       have Y:l.1.contains y=false:=by
        rw[<-cI,cW];exact B
       simp only[Y,ai,j6,gB,DV.strip,rU,RN,H,J,V];refine wY G (by decide) (b7 y) (by simp) (by simp;omega) fun k1 ver st a4 s1 s2 s3 s4 s5 _=> ?_
       simp only[];refine dH (.tsl k1 ver 0,(⟨_,_,a4⟩:Mem)) j1 rfl ?_
       show X6 f (I _) _ _
       rw[<-D];have e:q2=(l.1++ [y],l.2):=by rw[F,S,if_pos ⟨hz,B⟩]
       exact⟨by rw[ap l2];exact h2,by rw[e,ap R];exact L,P,an1, .inr ⟨k1,ver,st,rfl,by rw[e];simp only[s2,aR,a7,cf,aS],s5,by simp⟩,anZ a4,afo⟩
     all_goals
      refine ak bo ?_;have cm:(fC (bF y f) (bF y f)==0)=true:=by rw[zG];rfl
      simp only[cm,RN,H,J,V];refine V6 rfl rfl bk rfl ?_;simp only[List.contains_nil,gB,DV.strip,rU,ai,bh,j6,RN,H,J,U,V];refine⟨fun w hw=>by subst hw;rfl,by simp,fun _ h=>h.elim,?_⟩;refine dH (.tsl a.length 0 0,(⟨_,_,_⟩:Mem)) j1 rfl ?_
      show X6 f (I _) _ _
      rw[<-D];have e:q2=([y],bF y f):=by rw[F,bc]
      have cp:2<(b.set 3 (some [pI ((bF y f).n),pI ((bF y f).d)])).length:=by rw[bh];exact l2
      have cq:3<(b.set 3 (some [pI ((bF y f).n),pI ((bF y f).d)])).length:=by rw[bh];exact R
      refine⟨?_,?_,P,an1, .inr ⟨a.length,0,0,rfl,by rw[e];simp[aS],by decide,by simp⟩,?_,afo⟩
      ·simp only;rw[ap cp,aq (by decide)];exact h2
      ·simp only;rw[ap cq,ax R,e]
      ·intro j hj
       have:=anZ a j hj
       simpa using this
  ·obtain⟨c,b,z,a⟩:=q
   simp only at g;have z2:¬((2:Nat):Int)<2:=by decide
   simp only[z2,g6,RN,H];exact dH (c,(⟨b,z,a⟩:Mem)) g1 rfl (by rw[av];rw[E]at g;exact g)
 ·obtain⟨c,b,z,a⟩:=q
  simp only at g;rw[bO,<-pz]at g;obtain⟨k1,ver,st,rfl,bv, -, -⟩:=uX g.s (by intro e;exact bR.ne (by simpa using e));have h2:=g.b2;have L:=g.b3;have n2:=g.n2;simp only at h2 L n2 bv;have l2:=(ab.1 h2).1;have R:=(ab.1 L).1;simp only[aE,h2,L,n2,R,ax l2,RN,H,J,V];simp[datum,bT,dR,acR,gV,Mem.row,bv]
def jR {α:Type}[Inhabited α](lt:α->α->Bool)(xs:List α):Nat->α
 |0=>default
 |i+1=>if i=0\/lt (xs.getD i default) (jR lt xs i)=true then xs.getD i default else jR lt xs i
def sH {α:Type}[Inhabited α]{lt:α->α->Bool}{xs:List α}:∀{i:Nat},0<i->i<=xs.length->jR lt xs i∈xs
 |0,h,_=>by omega
 |i+1,_,h=>by
  rw[jR]
  split
  ·exact getD_mem (by omega)
  ·rename_i a
   exact sH (by omega) (by omega)
structure Fd where
 k:Int
 far:Fr
 all:List Fr
 deriving Inhabited
def Fd.dv (x:Fd):DV:= .agg [dI x.k,dI x.far.n,dI x.far.d,sF (x.all.map Fr.dv)]
def Lp {x:Fd}:x.dv= .agg [dI x.k,dI x.far.n,dI x.far.d,sF (x.all.map Fr.dv)]:=by rw[Fd.dv]
def Fd.cells (x:Fd):List PV:=[pI x.k,pI x.far.n,pI x.far.d, .d (sF (x.all.map Fr.dv))]
def amV (a b:Fr):Prop:=(0<=a.n*b.d/\a.n*b.d<=4000000000000000000)/\(0<=b.n*a.d/\b.n*a.d<=4000000000000000000)
def N9 (a b:Fd):Bool:=decide (fC a.far b.far<0)
def Zn (a b:Fd)(h:amV a.far b.far):Pure C 134 [a.dv,b.dv] (.d (.bool (N9 a b))) []:=by
 have c:=zA a.far b.far h.1 h.2;rw[aS,aS]at c;refine ah ql aH ?_;rw[Lp,Lp];simp only[ql,aH,RN,H,J,V];refine ak c ?_;simp only[N9,RN]
def agV (xs:List Fd)(hl:xs.length<=1000000)(p:0<xs.length)(hc:∀a∈xs,∀b∈xs,amV a.far b.far):Pure C 133 [sF (xs.map Fd.dv), .func (.func 134) [] []] (.d (.tup [(jR N9 xs xs.length).dv, .bool true])) []:=by
 refine ah qj ajk ?_;rw[Lp];simp only[qj,ajk,W,RN,H,J];refine aG xs.length (fun i (cs:List PV)=>⟨[(0, .d (sF (xs.map Fd.dv))),(1, .d (.func (.func 134) [] [])),(4, .ptr 0 0),(6, .ptr 1 0),(9, .d (sF (xs.map Fd.dv))),(10,pI xs.length),(11,pI i)],
   ⟨[some [pI 0,pI 0,pI 0, .d (.slice true [])],some cs],[],[]⟩⟩)
  (fun i cs=>(i=0/\cs=[pI 0,pI 0,pI 0, .d (.slice true [])])\/(0<i/\cs=(jR N9 xs i).cells)) 0 _ (az _) rfl (.inl ⟨rfl,rfl⟩) (fun i cs c e=> ?_) (fun cs e=> ?_)
 ·obtain⟨n,o,l⟩:=rng c hl
  obtain⟨x,k⟩:∃x,x=xs.getD i default:=⟨_,rfl⟩
  have j:jR N9 xs (i+1)=if i=0\/N9 x (jR N9 xs i)=true then x else jR N9 xs i:=by rw[jR,<-k]
  rcases e with⟨rfl,rfl⟩|⟨hi,rfl⟩
  ·have z:(((0:Nat):Int)==0)=true:=rfl
   simp only[n,o,c,getD_map,ae,W,Lp,<-k,z,l,RN,H,J,S,V];exact bQ 2 0 x.cells c rfl (.inr ⟨by omega,by rw[j,if_pos (.inl rfl)]⟩) (by simp) (by simp) rfl rfl
  ·have z:(((i:Nat):Int)==0)=false:=by simp;omega
   obtain⟨b,f⟩:∃b,b=jR N9 xs i:=⟨_,rfl⟩
   have m:b∈xs:=by rw[f];exact sH hi (by omega)
   rw[<-f]at j⊢;have g:=Zn x b (hc x (by rw[k];exact getD_mem c) b m);rw[Lp,Lp]at g;simp only[n,o,c,getD_map,ae,W,Lp,<-k,z,Fd.cells,RN,H,J,V];refine ig rfl (by kernel_rfl) rfl g ?_;cases h:N9 x b
   ·simp only[l,RN,H,J]
    exact bQ 2 0 b.cells c rfl (.inr ⟨by omega,by rw[j,h,if_neg (by simp;omega)];rfl⟩) (by simp) (by simp) rfl rfl
   ·simp only[l,RN,H,J,S,V]
    exact bQ 2 0 x.cells c rfl (.inr ⟨by omega,by rw[j,h,if_pos (.inr rfl)];rfl⟩) (by simp) (by simp) rfl rfl
 ·obtain⟨-,rfl⟩:=e.resolve_left (by omega)
  have z:((xs.length:Nat):Int)>0:=by omega
  simp only[aE,z,W,Fd.cells,RN,H,J,V]
def cmpL:List Pr->List Pr->Int
 | [],[]=>0
 | [],_::_=> -1
 | _::_,[]=>1
 |x::xs,y::ys=>if sU x y=0 then cmpL xs ys else sU x y
def aaC (a b:List Pr)(p:a.length<=1000000)(hb:b.length<=1000000):Pure C 138 [sF (a.map Pr.dv),sF (b.map Pr.dv), .func (.func 70) [] []] (pI (cmpL a b)) []:=by
 refine ah jS jv ?_;simp only[jS,jv,W,RN,H,J];refine aG a.length (fun i (_:Unit)=>⟨[(0, .d (sF (a.map Pr.dv))),(1, .d (sF (b.map Pr.dv))),(2, .d (.func (.func 70) [] [])),(11, .d (sF (a.map Pr.dv))),(12,pI a.length),(13,pI i)],⟨[],[],[]⟩⟩)
  (fun i _=>i<=b.length/\cmpL a b=cmpL (a.drop i) (b.drop i)) 0 () (az _) rfl ⟨az _,rfl⟩ (fun i _ e c=> ?_) (fun _ c=> ?_)
 ·obtain⟨m,n,o⟩:=rng e p
  obtain⟨j,c⟩:=c
  by_cases g:i<b.length
  ·have l:¬((i:Int)>=(b.length:Int)):=by omega
   rw[drop_cons e,drop_cons g,cmpL]at c;have f:=N7 (a.getD i default) (b.getD i default);rw[dW,dW]at f;simp only[m,n,e,l,g,getD_map,ae,W,dW,RN,H,J,S,V];refine ig rfl (by kernel_rfl) rfl f ?_
   by_cases h:sU (a.getD i default) (b.getD i default)=0
   ·have z:(sU (a.getD i default) (b.getD i default) !=0)=false:=by rw[h];rfl
    simp only[z,o,RN,H,J];exact bQ 0 0 () e rfl ⟨by omega,by rw[if_pos h]at c;exact c⟩ (by simp) (by simp) rfl rfl
   ·have z:(sU (a.getD i default) (b.getD i default) !=0)=true:=bne_iff_ne.2 h
    simp only[z,RN,H,J];rw[c,if_neg h]
  ·have l:((i:Int)>=(b.length:Int)):=by omega
   rw[drop_cons e,show b.drop i=[] from cK (by omega),cmpL]at c;simp only[m,n,e,l,getD_map,ae,W,dW,RN,H,J,V];rw[c]
 ·obtain⟨j,c⟩:=c
  rw[dp]at c
  by_cases k:a.length<b.length
  ·have z:(a.length:Int)<(b.length:Int):=by omega
   rw[drop_cons k,cmpL]at c;simp only[aE,z,W,RN,H];rw[c]
  ·have z:¬(a.length:Int)<(b.length:Int):=by omega
   rw[show b.drop a.length=[] from cK (by omega),cmpL]at c;simp only[aE,z,W,RN,H];rw[c]
def ltT (a b:List Pr):Bool:=decide (cmpL a b<0)
def Zo (a b:List Pr)(c:a.length<=1000000)(hb:b.length<=1000000):Pure C 137 [sF (a.map Pr.dv),sF (b.map Pr.dv)] (.d (.bool (ltT a b))) []:=by
 refine ah qm aH ?_;simp only[qm,aH,RN,H,J];refine ak (aaC a b c hb) ?_;simp only[ltT,RN]
def Bg (l:List Pr):DV:=sF (l.map Pr.dv)
def akj (xs:List (List Pr))(hl:xs.length<=1000000)(s:0<xs.length)(hs:∀a∈xs,a.length<=1000000):Pure C 136 [sF (xs.map Bg), .func (.func 137) [] []] (.d (.tup [Bg (jR ltT xs xs.length), .bool true])) []:=by
 refine ah nP bn ?_;simp only[nP,bn,W,RN,H,J];refine aG xs.length (fun i (c:DV)=>⟨[(0, .d (sF (xs.map Bg))),(1, .d (.func (.func 137) [] [])),(6, .d c),(9, .d (sF (xs.map Bg))),(10,pI xs.length),(11,pI i)],⟨[],[],[]⟩⟩)
  (fun i c=>(i=0/\c= .slice true [])\/(0<i/\c=Bg (jR ltT xs i))) 0 _ (az _) rfl (.inl ⟨rfl,rfl⟩) (fun i c e f=> ?_) (fun c f=> ?_)
 ·obtain⟨q,r,n⟩:=rng e hl
  obtain⟨x,m⟩:∃x,x=xs.getD i default:=⟨_,rfl⟩
  have k:jR ltT xs (i+1)=if i=0\/ltT x (jR ltT xs i)=true then x else jR ltT xs i:=by rw[jR,<-m]
  have g:∀l,(Bg l).cells=[Bg l]:=fun _=>rfl
  rcases f with⟨rfl,rfl⟩|⟨hi,rfl⟩
  ·have z:(((0:Nat):Int)==0)=true:=rfl
   simp only[q,r,e,getD_map,ae,W,<-m,z,n,g,aw,RN,H];exact dh (Bg x) e rfl (.inr ⟨by omega,by rw[k,if_pos (.inl rfl)]⟩) (by simp) (by simp) rfl rfl
  ·have z:(((i:Nat):Int)==0)=false:=by simp;omega
   obtain⟨b,h⟩:∃b,b=jR ltT xs i:=⟨_,rfl⟩
   have o:b∈xs:=by rw[h];exact sH hi (by omega)
   rw[<-h]at k⊢;have p:=Zo x b (hs x (by rw[m];exact getD_mem e)) (hs b o);simp only[q,r,e,getD_map,ae,W,<-m,z,g,aw,RN,H];refine ig rfl (by kernel_rfl) rfl p ?_;cases j:ltT x b
   ·simp only[n,RN,H]
    exact dh (Bg b) e rfl (.inr ⟨by omega,by rw[k,j,if_neg (by simp;omega)]⟩) (by simp) (by simp) rfl rfl
   ·simp only[n,RN,H]
    exact dh (Bg x) e rfl (.inr ⟨by omega,by rw[k,j,if_pos (.inr rfl)]⟩) (by simp) (by simp) rfl rfl
 ·obtain⟨-,rfl⟩:=f.resolve_left (by omega)
  have z:((xs.length:Nat):Int)>0:=by omega
  simp only[aE,z,W,RN,H]
def ac6 {bs:List (Option (List PV))}{fz:List Nat}{ar:List (Option Arr)}{f:FuncId}{k ver sz st:Nat}{xs:List DV}{d x:DV}(h:ar[k]?=some (some ⟨sz,xs,ver,st⟩))(g:Pure C f [.slice false xs,d.strip] (.d x) [])(c:∀ar',K (.d x) ⟨bs,fz,ar'⟩):
  au C base (.kZ f) [.tsl k ver 0, .d d] ⟨bs,fz,ar⟩ K KP:=by
 refine⟨[.slice false xs,d],by simp[bV,datum,Mem.row,h], .d x,[],by simpa[DV.strip]using g, .inr ⟨fun A h=>(by cases h),?_⟩⟩;have e:∀M':Mem,M'.boxes=bs->M'.fz=fz->K (.d x) M':=by
  rintro⟨b,z,a⟩ rfl rfl;exact c a
 exact e _ rfl (by simp[Mem.frz,kK])
def EC (r:Ru)(f:Fr)(i:Nat):Fd:=⟨((i+1:Nat):Int),(pz (dM r (i+1)) f).2,(pz (dM r (i+1)) f).1⟩
def jf (r:Ru)(f:Fr)(i:Nat):List Fd:=(aD i).map (EC r f)
def afg (r:Ru)(f:Fr)(i:Nat):jf r f (i+1)=jf r f i++ [EC r f i]:=by simp[jf,bR]
def Aa (a:r.ok=true){k:Nat}(hk:k<=3){f:Fr}(hf:f.ok=true):agI (dM r k) f (pz (dM r k) f):=by
 have:=IL hf;exact adA (Qa r k) (fun y b=>(tJ a hk b).1) (OE a k) (by omega) (by omega)
def GV (c:r.ok=true){k:Nat}(hk:k<=3){f:Fr}(hf:f.ok=true):∃z:Fr,(0<=z.n/\z.n<=216000)/\(1<=z.d/\z.d<=216000)/\(pz (dM r k) f).2=bF z f:=by
 obtain⟨a,g,b,h,e⟩:=(Aa c hk hf).least;have h1:=tJ c hk g;have h2:=tJ c hk h;have i:=ET a.toNat b.toNat (by omega);exact⟨_,by omega,by omega,e⟩
def Xh (c:r.ok=true){k:Nat}(hk:k<=3){f:Fr}(hf:f.ok=true){y:Fr}(v:y∈(pz (dM r k) f).1):(1<=y.n/\y.n<=216000)/\(1<=y.d/\y.d<=216000)/\dc y.n y.d=1/\∃t,o9 r k y t:=by
 obtain⟨⟨a,j,b,l,rfl⟩, -⟩:=(Aa c hk hf).good y v;have h1:=tJ c hk j;have h2:=tJ c hk l;have z:=ET a.toNat b.toNat (by omega);have A:=Z4 a.toNat b.toNat (by omega) (by omega);refine⟨by omega,by omega,ZX _ _ (by omega),?_⟩;obtain⟨ds,w,q,i⟩:=Ia _ _ _ _ ((Bc c).1 j);obtain⟨es,b1,b2,b3⟩:=Ia _ _ _ _ ((Bc c).1 l);obtain⟨z1,o⟩:=ajZ ds es (by omega);rw[bz]at i b3;obtain⟨g,x,s,u⟩:=ZY a.toNat b.toNat (by omega);refine⟨cM Pr.mk ds es,by simp;omega,fun p m=> ?_,?_⟩
 ·have e:p.a∈ds:=by rw[<-z1];exact b7 m
  have h:p.b∈es:=by rw[<-o];exact b7 m
  exact⟨q _ e,b2 _ h⟩
 ·rw[z1,o,<-i,<-b3]
  rw[show a=((a.toNat:Nat):Int) by omega,show b=((b.toNat:Nat):Int) by omega];simp only[ae]
  conv=>lhs;rw[u]
  conv=>rhs;rw[s]
  grind
def Rn (r:Ru):∀(m:Nat) (now:List Pr) (x:Fr),(firstT r m now x).length<=m
 |0,_,_=>by simp[firstT]
 |m+1,now,x=>by
  rw[firstT]
  split
  ·have:=Rn r m (now++ [‹Pr›]) (tH x ‹Pr›)
   simp only[aM];omega
  ·simp
def Gp (r:Ru)(f:Fr):Fd:=jR N9 (jf r f r.pr.toNat) r.pr.toNat
noncomputable def CP (r:Ru) (f:Fr):List (List Pr):=(Gp r f).all.map fun y=>firstT r (Gp r f).k.toNat [] y
noncomputable def oz (r:Ru) (f:Fr):List Pr:=jR ltT (CP r f) (CP r f).length
def Yf (a:r.ok=true)(f:Fr):∃i,i<r.pr.toNat/\Gp r f=EC r f i:=by
 obtain⟨-,r1,r2⟩:=Ru.facts a;have h:Gp r f∈jf r f r.pr.toNat:=sH (by omega) (by simp[jf]);simp only[jf,av,bA]at h;obtain⟨i,h1,h2⟩:=h;exact⟨i,h1,h2.symm⟩
def acV (r:Ru)(s:r.ok=true)(f:Fr)(hf:f.ok=true):Pure C 67 [r.wdv,f.dv] (.d (.tup [Bg (oz r f), .bool true])) []:=by
 obtain⟨-,r1,r2⟩:=Ru.facts s;obtain⟨m,I⟩:∃m:Nat,m=r.pr.toNat:=⟨_,rfl⟩
 have aq:r.wn=m+1:=by rw[Ru.wn,I]
 have an:∀x:Fd,DV.fits 4 x.dv=true:=fun _=>rfl
 refine bM (aB tC bn ?_);rw[Ls,aS];simp only[tC,bn,lX,RN,H,J,U];refine aG m (fun i (v:Nat)=>⟨[(2, .d (.aP [dI r.lo,dI r.hi,dI r.pr,dI 1, .slice false [],sF (r.tt.map ay),sF ((aD r.wn).map (sDV r)),sF ((aD r.wn).map (mDV r))])),(3, .d (.aP [dI f.n,dI f.d])),(6, .tsl 0 v 0),(7, .d (dI ((i+1:Nat):Int)))],
   ⟨[some [pI r.lo,pI r.hi,pI r.pr,pI 1, .d (.slice false []), .d (sF (r.tt.map ay)), .d (sF ((aD r.wn).map (sDV r))), .d (sF ((aD r.wn).map (mDV r)))],some [pI f.n,pI f.d]],[1,0],[some ⟨4,(jf r f i).map Fd.dv,v,0⟩]⟩⟩)
  (fun _ _=>True) 0 0 (az _) rfl trivial (fun i v g1 _=> ?_) (fun v _=> ?_)
 ·have L:((i+1:Nat):Int)<=r.pr:=by omega
  have g6:ee .i64 (((i+1:Nat):Int)+1)=((i+1+1:Nat):Int):=by rw[aF (by omega)];omega
  have hn:=aop r s (i+1) (by omega) f hf;have Y:=(Aa s (show i+1<=3 by omega) hf).ne;have T:(((pz (dM r (i+1)) f).1.length:Nat):Int)>0:=by
   have:(pz (dM r (i+1)) f).1.length≠0:=fun e=>Y (bu.1 e)
   omega
  have o:=aiq r ((i+1:Nat):Int);rw[Ls,aS,aS]at hn;rw[zI]at o;simp only[L,RN,H,J,V];refine ak hn ?_;simp only[T,W,RN,H,J,S,V];refine ak o ?_;simp only[gB,DV.strip,rU,g6,RN,H,J,S,U,V];refine⟨fun y p=>by subst p;rfl,by simp,by simp[jf];omega,?_⟩;refine bQ 2 1 (v+1) g1 ?_ trivial (by simp) (by simp) rfl rfl;simp[afg,EC,Lp]
 ·have L:¬((m+1:Nat):Int)<=r.pr:=by omega
  obtain⟨t,ap,A⟩:=Yf s f;have E:∀a∈jf r f m,∀b∈jf r f m,amV a.far b.far:=by
   intro a ha b hb;simp only[jf,av,bA]at ha hb;obtain⟨i,hi,rfl⟩:=ha;obtain⟨j,hj,rfl⟩:=hb;obtain⟨u,u1,u2,u3⟩:=GV s (show i+1<=3 by omega) hf;obtain⟨v,v1,v2,v3⟩:=GV s (show j+1<=3 by omega) hf;have:=Dj u1 u2 v1 v2 hf;simp only[EC,u3,v3];exact this
  have O:(jf r f m).length=m:=by simp[jf]
  have ahW:=agV (jf r f m) (by omega) (by omega) E;rw[O]at ahW;have N:jR N9 (jf r f m) m=Gp r f:=by rw[Gp,<-I]
  rw[N]at ahW;simp only[L,RN,H,J,V];refine ac6 rfl ahW fun ar=> ?_
  rw[Lp];(try simp only[RN,H,J,S,U,V]);obtain⟨x,hx⟩:∃x,x=Gp r f:=⟨_,rfl⟩
  rw[<-hx]at A⊢;have K:x.k=((t+1:Nat):Int):=by rw[A];rfl
  have D:x.all=(pz (dM r (t+1)) f).1:=by rw[A];rfl
  have w:t+1<=3:=by omega
  have P:=fun y (h:y∈x.all)=>Xh s w hf (y:=y) (by rw[<-D];exact h)
  have aw:x.all.length<=500000:=by
   have h1:=Zm (all:=dM r (t+1)) (f:=f) (dM r (t+1)) ([],⟨0,0⟩);have h2:=TU r w;rw[<-pz,<-D]at h1;simp only[be]at h1;omega
  have am:0<x.all.length:=by
   rw[D];exact ct.2 (Aa s w hf).ne
  obtain⟨g,Q⟩:∃g:Fr->List Pr,g=fun y=>firstT r (t+1) [] y:=⟨_,rfl⟩
  have ac:CP r f=x.all.map g:=by rw[CP,<-hx,K,Q];rfl
  have G:∀y∈x.all,(g y).length<=1000000:=by
   intro y p;have:=Rn r (t+1) [] y;rw[Q];simp only;omega
  have M:=akj (x.all.map g) (by simp;omega) (by simpa using am) (by intro l hl;obtain⟨y,p,rfl⟩:=av.1 hl;exact G y p);refine aG x.all.length (fun i (q:Mem×Nat)=>⟨[(2, .d (.aP [dI r.lo,dI r.hi,dI r.pr,dI 1, .slice false [],sF (r.tt.map ay),sF ((aD r.wn).map (sDV r)),sF ((aD r.wn).map (mDV r))])),(10, .d (.aP [dI x.k,dI x.far.n,dI x.far.d,sF (x.all.map Fr.dv)])),(12, .tsl ar.length q.2 0),(54, .d (sF (x.all.map Fr.dv))),(55,pI ((x.all.map Fr.dv).length)),(56,pI i)],q.1⟩)
   (fun i q=>q.1.aC[ar.length]?=some (some ⟨1,((x.all.take i).map g).map Bg,q.2,0⟩)/\FzB q.1) 0 (_,0) (az _) rfl ⟨by simp,by intro j hj;simp at hj⊢;omega⟩ (fun i q h1 Z=> ?_) (fun q Z=> ?_)
  ·obtain⟨⟨b,z,a⟩,v⟩:=q
   obtain⟨c,B⟩:=Z;simp only at c;obtain⟨h2,h3,h6⟩:=rng h1 (by omega);have X:b.length∉z:=fun e=>bE _ (B _ e)
   obtain⟨y,p⟩:∃y,y=x.all.getD i default:=⟨_,rfl⟩
   obtain⟨y1,y2,y3,y4⟩:=P y (by rw[p];exact getD_mem h1);have F:=akR r s t (by omega) y y1 y2 y4;rw[Ls,aS]at F;simp only[h2,h3,h1,getD_map,ae,W,aS,<-p,aX,bJ,ai,X,K,RN,H,J,V];refine ak F ?_;simp only[gB,DV.strip,c,h6,RN,S,U,V];refine⟨rfl,fun y p=>by subst p;rfl,by simp,by simp;omega,?_⟩;have R:ar.length<a.length:=(ab.1 c).1;refine dH ((⟨_,_,_⟩:Mem),v+1) h1 rfl ⟨?_,?_⟩
   ·simp only
    rw[ax R,bf h1,aR,aR,<-p,Q]
    rfl
   ·intro j hj
    simp only[bl]at hj;simp only[ai,aM,be]
    rcases hj with rfl|hj
    ·omega
    ·have:=B j hj;simp only at this;omega
  ·obtain⟨⟨b,z,a⟩,v⟩:=q
   obtain⟨c,B⟩:=Z;simp only[bO]at c;simp only[aE,W,RN,H];refine ac6 c M fun ao=> ?_
   (try simp only[RN]);rw[oz,ac]
   rfl
def acP (r:Ru)(a:r.ok=true)(f:Fr)(hf:f.ok=true):Pure C 24 [r.dv,f.dv] (.d (.tup [Bg (oz r f),dI 0])) []:=by
 have h1:=RZ r;have h2:=XP f;have c:=adO r a;have e:=acu r a;have b:=acV r a f hf;rw[a,yI]at h1;rw[hf,aS]at h2;rw[yI]at c;rw[aS]at b;refine ah DR bn ?_;rw[yI,aS];simp only[DR,bn,RN,H,J,V];refine ak h1 ?_;(try simp only[RN,H,J,V]);refine ak h2 ?_;(try simp only[RN,H,J,V]);refine ak c ?_;(try simp only[RN,H,J,O,S,U,V]);refine cO rfl (by rw[zI]) (by rw[zI]at e;exact e) ?_;(try simp only[RN,H,J,O,S,U,V]);refine cO rfl (by rw[Ls]) (by rw[Ls]at b;exact b) ?_;(try simp only[RN,H])
def adX (r:Ru):r.tt.Pairwise (·<·):=by
 rw[Ru.tt,cE];refine List.Pairwise.imp ?_ cL;intro a b h;omega
def afj (r:Ru):(r.tt.flatMap fun a=>r.tt.map fun b=>(⟨a,b⟩:Pr)).Pairwise fun p q=>0<=sU q p:=by
 rw[List.pairwise_flatMap];refine⟨fun a _=> ?_,?_⟩
 ·rw[cE]
  refine List.Pairwise.imp ?_ (adX r);intro b c h;exact EM (.inr ⟨rfl,by simp only;omega⟩)
 ·refine List.Pairwise.imp ?_ (adX r)
  intro a c h p e q f;obtain⟨b,_,rfl⟩:=av.1 e;obtain⟨d,_,rfl⟩:=av.1 f;exact EM (.inl h)
def U4 {r:Ru}(k:r.ok=true):∀(m:Nat) (now:List Pr) (x:Fr),1<=x.n->1<=x.d->(∃t,o9 r m x t)->(∀t,o9 r m x t->∀q∈t,mJ now q=true)->o9 r m x (firstT r m now x)
 |0,now,x,_,_,⟨t,e⟩,_=>by
  obtain rfl:t=[]:=cp e.len;exact e
 |m+1,now,x,h1,h2,⟨t,e⟩,B=>by
  obtain⟨⟨L,M,N⟩, -⟩:=Ru.facts k;rw[firstT]
  split
  ·rename_i p s
   obtain⟨l,a,b,f,o⟩:=List.find?_eq_some_iff_append.1 s;have l:Gg r m now x p:=by simpa using l
   have A:=afj r;have v:p∈(r.tt.flatMap fun a=>r.tt.map fun b=>(⟨a,b⟩:Pr)):=by rw[f];simp
   have c:p.a∈r.tt/\p.b∈r.tt:=by
    obtain⟨u,G,s⟩:=bj.1 v;obtain⟨w,H,rfl⟩:=av.1 s;exact⟨G,H⟩
   have J:=qG.1 c.1;have K:=qG.1 c.2;obtain⟨C,D,I, -⟩:=KL (p:=p) h1 h2 (by omega) (by omega);have g:∀q:Pr,q.a∈r.tt->q.b∈r.tt->Gg r m now x q->0<=sU q p:=by
    intro q y z F;have i:q∈(r.tt.flatMap fun a=>r.tt.map fun b=>(⟨a,b⟩:Pr)):=bj.2 ⟨q.a,y,av.2 ⟨q.b,z,rfl⟩⟩;rw[f]at i A
    rcases cr.1 i with h|h
    ·have:=o q h
     simp[F]at this
    ·rcases bl.1 h with rfl|h
     ·exact EM (.inr ⟨rfl,cA _⟩)
     ·exact(dk.1 (List.pairwise_append.1 A).2.1).1 q h
   exact(Es h1 h2 (by omega) (by omega) c).1 (U4 k m _ _ C.1 D.1 (UK l.2) (adB k h1 h2 B c g))
  ·rename_i E
   exfalso
   match t,e with
   | [],e=>have:=e.len;simp at this
   |q::t,e=>
    have j:=e.rng q (by simp);have:=cw.1 E q (bj.2 ⟨q.a,j.1,av.2 ⟨q.b,j.2,rfl⟩⟩);exact this (by simpa using V8 k h1 h2 B e (q:=q) (by simp))
def Uh (d:r.ok=true){k:Nat}{x:Fr}{t:List Pr}(h1:1<=k)(e:k<=3)(h:o9 r k x t):fF t=true:=by
 obtain⟨⟨f,g,i⟩, -⟩:=Ru.facts d;simp only[fF,inR,bN,decide_eq_true_eq,cn,ge_iff_le,Pr.ok,aT];refine⟨by have:=h.len;omega,fun p c=> ?_⟩;have:=h.rng p c;have a:=qG.1 this.1;have b:=qG.1 this.2;omega
def aas (v:r.ok=true){k:Nat}{y:Fr}{t:List Pr}(h1:1<=y.n)(h2:1<=y.d)(u:dc y.n y.d=1)(h:o9 r k y t):gu t=y:=by
 obtain⟨⟨x,z,C⟩, -⟩:=Ru.facts v;have q:=IZ (t.map (·.a)) (fun d hd=>by obtain⟨p,o,rfl⟩:=av.1 hd;have:=qG.1 (h.rng p o).1;omega);have w:=IZ (t.map (·.b)) (fun d hd=>by obtain⟨p,o,rfl⟩:=av.1 hd;have:=qG.1 (h.rng p o).2;omega);have WM:=h.rat;rw[gu];obtain⟨A,c⟩:∃A:Nat,bZ (t.map (·.a)) 1=A:=⟨(bZ (t.map (·.a)) 1).toNat,by omega⟩
 obtain⟨B,f⟩:∃B:Nat,bZ (t.map (·.b)) 1=B:=⟨(bZ (t.map (·.b)) 1).toNat,by omega⟩
 rw[c,f]at WM⊢;obtain⟨n,d⟩:=y;simp only at h1 h2 u WM;obtain⟨n,rfl⟩:∃m:Nat,n=m:=⟨n.toNat,by omega⟩
 obtain⟨d,rfl⟩:∃m:Nat,d=m:=⟨d.toNat,by omega⟩
 have s:Nat.Coprime n d:=by simpa[dc]using u
 have e:n*B=d*A:=by exact_mod_cast WM
 have hd:n∣A:=Nat.Coprime.dvd_of_dvd_mul_left s ⟨B,e.symm⟩;obtain⟨g,rfl⟩:=hd;have i:B=d*g:=by
  have:n*B=n*(d*g):=by rw[e,Nat.mul_left_comm]
  exact Nat.eq_of_mul_eq_mul_left (by omega) this
 subst i;have l:0<g:=by
  rcases Nat.eq_zero_or_pos g with rfl|h
  ·rw[c]at q;simp at q
  ·exact h
 have j:ec (n*g) (d*g)=g:=by rw[Nat.gcd_mul_right,s,Nat.one_mul]
 simp only[di,lJ,j,Nat.mul_div_cancel _ l]
def NJ {α:Type}[Inhabited α]{lt:α->α->Bool}{far:α->Fr}(hlt:∀a b,lt a b=decide (fC (far a) (far b)<0)){xs:List α}(hd:∀a∈xs,1<=(far a).d):∀i,i<=xs.length->∀j,j<i->fC (far (jR lt xs i)) (far (xs.getD j default))<=0
 |0,_,j,h=>by omega
 |i+1,hi,j,o=>by
  have l:=hd _ (getD_mem (show i<xs.length by omega));have m:=hd _ (getD_mem (show j<xs.length by omega));rw[jR]
  split
  ·rename_i c
   by_cases e:j=i
   ·subst e;rw[zG];omega
   ·have f:j<i:=by omega
    have g:=c.resolve_left (by omega);rw[hlt]at g;have g:=of_decide_eq_true g;have n:=NJ hlt hd i (by omega) j f;have k:=hd _ (sH (lt:=lt) (xs:=xs) (i:=i) (by omega) (by omega));exact Df (by omega) k (by omega) (by omega) n
  ·rename_i c
   have c:=not_or.1 c
   by_cases e:j=i
   ·subst e
    have h2:=c.2;rw[hlt]at h2;have h2:¬fC (far (xs.getD j default)) (far (jR lt xs j))<0:=fun h=>h2 (decide_eq_true h)
    rw[cmp_neg];omega
   ·exact NJ hlt hd i (by omega) j (by omega)
def Pq (a:r.ok=true){f:Fr}(hf:f.ok=true):∃i y,i<r.pr.toNat/\Gp r f=EC r f i/\y∈(pz (dM r (i+1)) f).1/\o9 r (i+1) y (oz r f)/\gu (oz r f)=y:=by
 obtain⟨-,r1,r2⟩:=Ru.facts a;obtain⟨i,hi,d⟩:=Yf a f;have b:i+1<=3:=by omega
 have j:(Gp r f).k.toNat=i+1:=by rw[d];rfl
 have c:(Gp r f).all=(pz (dM r (i+1)) f).1:=by rw[d];rfl
 have h:0<(CP r f).length:=by
  rw[CP,W,c];exact ct.2 (Aa a b hf).ne
 have l:oz r f∈CP r f:=sH h (aw _);rw[CP,j,c]at l;obtain⟨y,m,e⟩:=av.1 l;obtain⟨n,o,p,q⟩:=Xh a b hf m;have g:=U4 a (i+1) [] y n.1 o.1 q (fun _ _ _ _=>rfl);rw[e]at g;exact⟨i,y,hi,d,m,g,aas a n.1 o.1 p g⟩
def Pv (a:r.ok=true){f:Fr}(hf:f.ok=true):fF (oz r f)=true:=by
 obtain⟨-,r1,r2⟩:=Ru.facts a;obtain⟨i,y,hi, -, -,b, -⟩:=Pq a hf;exact Uh a (by omega) (by omega) b
def Zp (e:r.ok=true){f:Fr}(hf:f.ok=true){t:List Pr}(h1:1<=t.length)(h2:(t.length:Int)<=r.pr)(D:∀p∈t,p.a∈r.tt/\p.b∈r.tt):Vh f (oz r f) t<=0:=by
 obtain⟨⟨T,U,V⟩,r1,r2⟩:=Ru.facts e;obtain⟨i,y,hi,I,E,R,x⟩:=Pq e hf;have k:i+1<=3:=by omega
 obtain⟨j,J⟩:∃j,t.length=j+1:=⟨t.length - 1,by omega⟩
 have g:j+1<=3:=by omega
 have z:=I4 (r:=r) (t.map (·.a)) (fun d hd=>by obtain⟨p,s,rfl⟩:=av.1 hd;exact(D p s).1);have A:=I4 (r:=r) (t.map (·.b)) (fun d hd=>by obtain⟨p,s,rfl⟩:=av.1 hd;exact(D p s).2);rw[W,J]at z A;have m:=(Bc e).2 z;have n:=(Bc e).2 A;have F:=tJ e g m;have G:=tJ e g n;have h:=(Aa e g hf).low _ m _ n;have B:gu t=lJ (bZ (t.map (·.a)) 1).toNat (bZ (t.map (·.b)) 1).toNat:=by
  rw[gu];congr 1<;>omega
 rw[<-B]at h;have q:=((Aa e k hf).good y E).2;obtain⟨u,X,Y,K⟩:=GV e k hf;obtain⟨v,Z,v2,L⟩:=GV e g hf;obtain⟨y1,y2, -, -⟩:=Xh e k hf E;have c:=NJ (lt:=N9) (far:=Fd.far) (fun _ _=>rfl) (xs:=jf r f r.pr.toNat) (by
  intro a C;simp only[jf,av,bA]at C;obtain⟨l,S,rfl⟩:=C;obtain⟨w,w1,w2,M⟩:=GV e (show l+1<=3 by omega) hf;simp only[EC,M]
  show 1<=w.d
  omega) r.pr.toNat (by simp[jf]) j (by omega)
 rw[<-Gp,I]at c;have o:(jf r f r.pr.toNat).getD j default=EC r f j:=by
  rw[ao,jf,bt,bL (by omega)];rfl
 rw[o]at c;simp only[EC]at c;have H:1<=(gu t).d:=by rw[B];exact I5 (by omega)
 rw[Vh,x];have N:(bF y f).d=y.d:=rfl;have O:(bF (gu t) f).d=(gu t).d:=rfl;have P:(pz (dM r (i+1)) f).2.d=u.d:=by rw[K];rfl
 have Q:(pz (dM r (j+1)) f).2.d=v.d:=by rw[L];rfl
 refine Df (b:=(pz (dM r (i+1)) f).2) (by omega) (by omega) (by omega) (by omega) ?_;exact Df (b:=(pz (dM r (j+1)) f).2) (by omega) (by omega) (by omega) c h
end Go.Tel
namespace Go.Am
structure QG (n:Nat) (M M':Mem):Prop where
 len:M.boxes.length<=M'.boxes.length
 bC:M.aC.length<=M'.aC.length
 box:∀i,i<n->M'.boxes[i]?=M.boxes[i]?
 fz:∀i,i<n->(i∈M'.fz↔i∈M.fz)
 row:∀k,k<M.aC.length->M'.aC[k]?=M.aC[k]?
 fzb:FzB M->FzB M'
variable{M M':Mem}
def Moved.Xg {n m:Nat}(h:Moved n (fun _=>False) M M')(a:m<=n):QG m M M':=
 ⟨h.len,by rw[h.aC];exact aw _,fun i hi=>h.box i (by omega) id,fun i hi=>h.fz i (by omega) id,fun k _=>by rw[h.aC],h.fzb⟩
def QG.less {n m:Nat}(h:QG n M M')(a:m<=n):QG m M M':=
 ⟨h.len,h.bC,fun i hi=>h.box i (by omega),fun i hi=>h.fz i (by omega),h.row,h.fzb⟩
def agG (C:Ctx)(g:FuncId)(fs cs:List PV)(xs:List (List DV)):Prop:=
 ∀(M:Mem) (b n:Nat) (R:List (List DV)->Mem->Prop) (stop:Mem->Prop) (K:PV->Mem->Prop) (KP:DV->Mem->Prop),b<n->n<=M.boxes.length->FzB M->
  (∀a c e,QG n c e->R a c->R a e)->
  (∀a x post c,xs=a++x::post->n<=c.boxes.length->R a c->
   SY C b (x.map .d) c (fun p M'=>Kept n no no c M'/\((p= .d (.bool true)/\R (a++ [x]) M')\/(p= .d (.bool false)/\stop M'))) KP)->
  R [] M->(∀p M',stop M'->K p M')->(∀p M',n<=M'.boxes.length->R xs M'->K p M')->SC C g (fs++ [.mV b]++cs) M K KP
section
variable {C:Ctx}{nb na:Nat}{Q:Ex->St->Prop}
def S9 {f:Opd}{ps keys:List Nat}{asg body:aA}{s:St}{g:FuncId}{fs cs:List PV}{xs:List (List DV)}(hit:agG C g fs cs xs)(hv:ahI (s.val f)=some (g,fs,cs))(hc:callable C.P g=true)
  (Dp:FzB s.mem)(E:∀x∈xs,x.length=ps.length)
  (I:List (List DV)->Mem->Prop)(t:∀pre a c,QG s.mem.boxes.length a c->I pre a->I pre c)(S:I [] s.mem)
  (hb:∀(L:Loop) (cells:List PV) (pre:List (List DV)) (x:List DV) (post:List (List DV)) (a:Mem),xs=pre++x::post->s.mem.boxes.length<a.boxes.length->
   a.boxes[s.mem.boxes.length]?=some (some (.fQ {L with state:= .busy,pending:=none}::cells))->s.mem.boxes.length∉a.fz->I pre a->∀G:Mem,
   pwp C nb na asg (fun e F=>e= .normal/\F.mem=G/\pwp C nb na body (kE s.env s.mem.boxes.length L cells no no a (I (pre++ [x])) Q) ⟨F.env,a⟩) ⟨ps.zip (x.map .d)++iq s.env keys,G⟩)
  (H:∀a,I xs a->s.mem.boxes.length<a.boxes.length->Q .normal ⟨s.env,a⟩):
  pwp C nb na (.nD f ps keys asg body) Q s:=by
 have r:s.mem.boxes.length∉s.mem.fz:=fun h=>bE _ (Dp _ h)
 refine⟨g,fs,cs,hv,hc,r,fun L V fV=> ?_⟩;generalize A:(aD L.tmps.size).map (look s.env)=cells at fV⊢;obtain⟨b,l⟩:∃b,b=s.mem.boxes.length:=⟨_,rfl⟩
 rw[<-l]at fV r t hb H⊢;have u:Moved b (fun _=>False) s.mem (dN s.mem L .ready none cells [] [] []):=by
  rw[l];refine⟨by simp[dN],fun i hi _=> ?_,fun i hi _=>by simp[dN],by simp[dN],fun hb i hi=> ?_⟩
  ·simp only[dN]
   rw[ap hi]
  ·have:=hb i (by simpa[dN]using hi)
   simp[dN];omega
 have v:(dN s.mem L .ready none cells [] [] []).boxes[b]?=some (some (.fQ {L with state:= .ready,pending:=none}::cells)):=by rw[l];exact LY
 have j:∀(e:Ex) (st:LoopState) (z:Option Code) (M':Mem),M'.boxes[b]?=some (some (.fQ {L with state:=st,pending:=z}::cells))->st≠ .busy->b∉M'.fz->
   (match z with|none=>e= .normal|some .ret=>e= .ret|some (.exit id)=>e= .exit id| _=>False)->(∀c,Moved b (fun _=>False) M' c->Q e ⟨s.env,c⟩)->afterLoop Q s.env b L M':=by
  intro e st z M' h1 h2 o q T;refine⟨st,z,cells,h1,h2,o,?_⟩;have B:∀x,Q e ⟨s.env,{M' with boxes:=M'.boxes.set b x}⟩:=fun x=>T _ (Moved.set (.inl (aw _)))
  match z,q with
  |none,q=>subst q;exact B _
  |some .ret,q=>subst q;exact B _
  |some (.exit id),q=>subst q;exact B _
 have Qk:∀(M:Mem) (x:Option (List PV)),QG b M {M with boxes:=M.boxes.set b x}:=fun M x=>(Moved.set (own:=fun _=>False) (.inl (aw _))).Xg (aw _)
 refine hit _ b (b+1) (fun pre a=>a.boxes[b]?=some (some (.fQ {L with state:= .ready,pending:=none}::cells))/\b∉a.fz/\I pre a)
  (fun M'=>afterLoop Q s.env b L M') _ _ (by omega) (by rw[l];simp[dN]) (u.fzb Dp) ?_ ?_ ⟨v,by simpa[dN]using r,t _ _ _ (u.Xg (aw _)) S⟩ (fun _ _ h=>h) ?_
 ·rintro pre a c k ⟨h1,h2,o⟩
  exact⟨by rw[k.box b (by omega)];exact h1,fun h=>h2 ((k.fz b (by omega)).1 h),t _ _ _ (k.less (by omega)) o⟩
 ·rintro pre x post a J U ⟨h1,h2,o⟩
  refine fV x _ _ a (E x (by rw[J];simp)) h1 h2 ?_;have D:=hb L cells pre x post {a with boxes:=a.boxes.set b (some (.fQ {L with state:= .busy,pending:=none}::cells))} J (by simp only[bh];omega) (by rw[bX];simp;omega) h2 (t _ _ _ (Qk _ _) o) a;refine lZ ?_ D;rintro e F ⟨N,O,R⟩;refine⟨N,O,lZ ?_ R⟩;intro K W h;cases K with
  |normal=>
   obtain⟨m,n,w,y⟩:=h;refine⟨cells,m,n,Du (by omega) (fun h=>h) w, .inl ⟨rfl,?_,n,t _ _ _ (Qk _ _) y⟩⟩;have:=(ab.1 m).1;simp[this]
  |ret=>
   obtain⟨m,n,w,y⟩:=h;refine⟨cells,m,n,Du (by omega) (fun h=>h) w, .inr ⟨rfl,j .ret .done (some .ret) _ ?_ (by simp) n rfl fun c k=>y c ((Moved.set (.inl (aw _))).trans k)⟩⟩;have:=(ab.1 m).1;simp[this]
  |exit id=>
   obtain⟨m,n,w,y⟩:=h;refine⟨cells,m,n,Du (by omega) (fun h=>h) w, .inr ⟨rfl,j (.exit id) .done (some (.exit id)) _ ?_ (by simp) n rfl fun c k=>y c ((Moved.set (.inl (aw _))).trans k)⟩⟩;have:=(ab.1 m).1;simp[this]
  |panic d=>exact h
 ·rintro p a U ⟨h1,h2,o⟩
  refine j .normal .ready none a h1 (by simp) h2 rfl fun c k=>H c (t _ _ _ (k.Xg (aw _)) o) ?_
  have:=k.len;omega
end
end Go.Am
namespace Go.Tel
open Go.Am
def o8 (t:List Int)(k:Nat):List Pr:=(aD k).map fun p=>⟨t.getD (2*p) default,t.getD (2*p+1) default⟩
def agk (t:List Int)(k:Nat):o8 t (k+1)=o8 t k++ [⟨t.getD (2*k) default,t.getD (2*k+1) default⟩]:=by simp[o8,bR]
def U8 (t:List Int)(hl:t.length<=1000)(h2:2<=t.length):SC C 53 [.d (sF (t.map ay))] bG (fun p M=>Jj M p 2 ((o8 t (t.length / 2)).map Pr.dv) 1) (fun _ _=>False):=by
 refine aB xC aI ?_;have e:(2:Int)≠0:=by decide
 have c:=WG (show t.length<=1000000 by omega);simp only[xC,aI,lX,W,c,e,RN,H,U];refine aG (t.length / 2) (fun i (q:Nat×Nat)=>⟨[(0, .d (sF (t.map ay))),(3, .tsl 1 q.1 0),(7, .d (dI ((t.length / 2:Nat):Int))),(8,pI i)],
   ⟨[],[],[some ⟨2,[],0,0⟩,some ⟨2,(o8 t i).map Pr.dv,q.1,q.2⟩]⟩⟩)
  (fun i q=>q.2≠2/\(0<i->q.2=1)) 0 (0,0) (az _) rfl ⟨by decide,fun h=>by omega⟩ (fun i q b a=> ?_) (fun q a=> ?_)
 ·obtain⟨v,st⟩:=q
  simp only at a⊢;obtain⟨f,r,g⟩:=rng b (by omega);have w1:ee .i64 (2*(i:Int))=((2*i:Nat):Int):=by rw[aF (by omega)];omega
  have o:ee .i64 (((2*i:Nat):Int)+1)=((2*i+1:Nat):Int):=by rw[aF (by omega)];omega
  have k:2*i<t.length:=by omega
  have l:2*i+1<t.length:=by omega
  have m:(0:Int)<=((2*i:Nat):Int):=by omega
  have n:(0:Int)<=((2*i+1:Nat):Int):=by omega
  simp only[f,w1,o,k,l,m,n,W,getD_map,ae,aW,gB,DV.strip,rU,g,RN,H,J,U,V];refine⟨fun y j=>by subst j;rfl,by simp,a.1,by simp[o8];omega,?_⟩;refine bQ 0 2 (v+1,1) b ?_ ⟨by simp,fun _=>rfl⟩ (by simp) (by simp) rfl rfl;simp[agk,dW]
 ·obtain⟨v,st⟩:=q
  simp only at a⊢;simp only[aE,RN,H];exact⟨1,v,rfl,by rw[a.2 (by omega)];rfl⟩
def ahS (t:List Int)(hl:t.length<=1000)(h2:2<=t.length):Pure C 53 [sF (t.map ay)] (.tsl 0 0 0) [⟨2,(o8 t (t.length / 2)).map Pr.dv,0,1⟩]:=Ic (U8 t hl h2)
def ahR (t:List Int)(hl:t.length<=1000)(h2:2<=t.length):Pure C 53 [sF (t.map ay)] (.d (sF ((o8 t (t.length / 2)).map Pr.dv))) []:=bM (SC.mono (U8 t hl h2) fun _ _ h=>h.datum)
def Bj:List Pr->List Int->List (List Int)
 | [],now=>[now]
 |w::ws,now=>(aD (w.b - w.a+1).toNat).flatMap fun(i:Nat)=>Bj ws (now++ [w.a+(i:Int)])
def Nz (t:List Int):List DV:=[sF (t.map ay)]
def InW (ws:List Pr)(t:List Int):Prop:=t.length=ws.length/\∀i,i<ws.length->(ws.getD i default).a<=t.getD i default/\t.getD i default<=(ws.getD i default).b
def ac2:∀(rest:List Pr) (pre:List Pr) (now:List Int),InW pre now->∀t∈Bj rest now,InW (pre++rest) t
 | [],pre,now,h,t,b=>by
  simp only[Bj,aL]at b;subst b
  simpa using h
 |w::ws,pre,now,h,t,b=>by
  simp only[Bj,bj,bA]at b;obtain⟨i,hi,b⟩:=b;have f:InW (pre++ [w]) (now++ [w.a+(i:Int)]):=by
   refine⟨by simp[h.1],fun j g=> ?_⟩;simp only[ai,aM,be]at g
   by_cases e:j<pre.length
   ·have:=h.2 j e
    rw[ao,ao]at this;rw[ao,ao,ap e,ap (by rw[h.1];exact e)];exact this
   ·obtain rfl:j=pre.length:=by omega
    have c:(pre++ [w]).getD pre.length default=w:=by simp
    have d:(now++ [w.a+(i:Int)]).getD pre.length default=w.a+(i:Int):=by rw[<-h.1];simp
    rw[c,d];omega
  have:=ac2 ws (pre++ [w]) (now++ [w.a+(i:Int)]) f t b
  simpa using this
def ahb (xs:List DV)(hf:∀y∈xs,y.fits 1=true)(hl:xs.length<=1000000):Pure C 177 [.slice false xs] (.tsl 0 0 0) [⟨1,xs,0,0⟩]:=by
 refine eU iU aI ?_;simp only[iU,aI,RN,H,U];refine⟨fun _=> ?_,fun a b=> ?_⟩
 ·(try simp only[RN,H,J,O,S,U,V])
  exact⟨hf,by simp,by simp,by omega,gJ (k:=1) (A:=⟨1,xs,0,0⟩) rfl rfl (az _) rfl⟩
 ·subst a
  cases b
  ·(try simp only[RN,H,U,V])
   (repeat(refine ed (by first|assumption|rfl|(simp;done)|(simp;omega)) ?_))
   exact gJ (k:=1) (A:=⟨1,[],0,0⟩) rfl rfl (az _) rfl
  ·(try simp only[RN,H,U])
   exact gJ (k:=1) (A:=⟨1,[],0,0⟩) rfl rfl (az _) rfl
section
variable {f:Fi}{n b bw bv:Nat}{R:List (List DV)->Mem->Prop}{stop:Mem->Prop}{KP:DV->Mem->Prop}{xs:List (List DV)}
structure Fj (f:Fi) (b bw bv:Nat) (M:Mem):Prop where
 w:M.boxes[bw]?=some (some [.func (.func 176) [] [.d (.aP [sF (f.ws.map Pr.dv),sF (f.ns.map Nt.dv)]), .ptr bv 0, .ptr bw 0]])
 v:M.boxes[bv]?=some (some [.mV b])
 fzb:FzB M
variable{M M':Mem}
def Fj.kept (h:Fj f b bw bv M)(a:n<=bw)(hv:n<=bv)(hk:Kept n no no M M'):Fj f b bw bv M':=
 ⟨(hk.box bw (.inl a) (ab.1 h.w).1).trans h.w,(hk.box bv (.inl hv) (ab.1 h.v).1).trans h.v,hk.fzb h.fzb⟩
def Fj.Xg (h:Fj f b bw bv M)(hk:QG M.boxes.length M M'):Fj f b bw bv M':=
 ⟨(hk.box bw (ab.1 h.w).1).trans h.w,(hk.box bv (ab.1 h.v).1).trans h.v,hk.fzb h.fzb⟩
def akf (hf:Je f)(hw:n<=bw)(hv:n<=bv)(Q:∀pre c M2,QG n c M2->R pre c->R pre M2)
  (fV:∀pre x post c,xs=pre++x::post->n<=c.boxes.length->R pre c->SY C b (x.map .d) c (fun p M'=>Kept n no no c M'/\((p= .d (.bool true)/\R (pre++ [x]) M')\/(p= .d (.bool false)/\stop M'))) KP):
  ∀(rest S:List Pr) (now:List Int) (ex:Bool) (pre post:List (List DV)) (c:Mem),f.ws=S++rest->now.length=S.length->(ex=true->now=[])->xs=pre++((Bj rest now).map Nz++post)->Fj f b bw bv c->R pre c->
   SC C 176 [.d (.slice ex (now.map ay)), .d (.aP [sF (f.ws.map Pr.dv),sF (f.ns.map Nt.dv)]), .ptr bv 0, .ptr bw 0] c
    (fun p M'=>Fj f b bw bv M'/\((p= .d (.bool true)/\R (pre++(Bj rest now).map Nz) M')\/(p= .d (.bool false)/\stop M'))) KP:=by
 have hm:2<=f.ws.length/\f.ws.length<=6:=by have:=hf.len;omega
 intro rest
 induction rest with
 |nil=>
  intro S now ex pre post c g t L T G hR;refine aB oV wJ ?_;obtain⟨bs,fz,ar⟩:=c;obtain⟨u,B,p3⟩:=G;simp only at u B;have l1:=(ab.1 u).1;have l2:=(ab.1 B).1;have hl:f.ws.length=now.length:=by rw[g,cT,t]
  obtain rfl:ex=false:=by
   cases ex
   ·rfl
   ·have:now.length=0:=by rw[L rfl];rfl
    omega
  have z:(((now.length:Nat):Int)==((f.ws.length:Nat):Int))=true:=by rw[hl];simp
  simp only[oV,wJ,W,z,B,RN,H,J,V];refine um ?_;have A:=fV pre (Nz now) post ⟨bs,fz,ar⟩ (by rw[T];simp[Bj]) (Nat.le_of_lt (Nat.lt_of_le_of_lt hw l1)) hR;refine SY.mono A ?_;rintro p ⟨a1,a2,a0⟩ ⟨hk,hp⟩;have K:=Fj.kept (M:=⟨bs,fz,ar⟩) ⟨u,B,p3⟩ hw hv hk
  rcases hp with⟨rfl,ao⟩|⟨rfl,hs⟩
  ·(try simp only[RN])
   exact⟨K, .inl ao⟩
  ·(try simp only[RN])
   exact⟨K, .inr hs⟩
 |cons w rest ih=>
  intro S now ex pre post c g t L T G hR;refine aB oV wJ ?_;obtain⟨bs,fz,ar⟩:=c;have O:now.length<f.ws.length:=by rw[g,t];simp
  have z:(((now.length:Nat):Int)==((f.ws.length:Nat):Int))=false:=by simp;omega
  have aM:f.ws.getD now.length default=w:=by rw[g,t];simp
  have a3:=Fg (hf.w w (by rw[g];simp));have n0:(0:Int)<=((now.length:Nat):Int):=by omega
  have aD:bs.length∉fz:=fun e=>bE _ (G.fzb _ e)
  simp only[oV,wJ,W,z,n0,O,getD_map,ae,aM,dW,aX,bJ,ai,aD,RN,H,J,V];obtain⟨N,hN⟩:∃N:Nat,N=(w.b - w.a+1).toNat:=⟨_,rfl⟩
  obtain⟨F,hF⟩:∃F:Nat->List (List DV),F=fun i=>((List.range' i (N - i)).flatMap fun(i:Nat)=>Bj rest (now++ [w.a+(i:Int)])).map Nz:=⟨_,rfl⟩
  have ac:(Bj (w::rest) now).map Nz=F 0:=by rw[hF,Bj,List.range_eq_range',<-hN];rfl
  have E:∀i,i<N->F i=(Bj rest (now++ [w.a+(i:Int)])).map Nz++F (i+1):=by
   intro i hi;rw[hF];simp only;rw[show N - i=(N - (i+1))+1 by omega,List.range'_succ,cD,aR]
  have am:F N=[]:=by rw[hF];simp
  rw[ac]at T⊢;have I:Fj f b bw bv ⟨bs++ [some [PV.d (dI w.a),PV.d (dI w.b)]],bs.length::fz,ar⟩/\QG bs.length ⟨bs,fz,ar⟩ ⟨bs++ [some [PV.d (dI w.a),PV.d (dI w.b)]],bs.length::fz,ar⟩:=by
   have s:Moved bs.length (fun _=>False) ⟨bs,fz,ar⟩ ⟨bs++ [some [PV.d (dI w.a),PV.d (dI w.b)]],[bs.length]++fz,ar⟩:=Moved.ext (aw _) (by simp);exact⟨G.Xg (s.Xg (aw _)),s.Xg (aw _)⟩
  have aE:n<=bs.length:=by have:=(ab.1 G.w).1;simp only at this;omega
  refine aG N (fun i (q:List (List DV)×Mem)=>⟨[(0, .d (.slice ex (now.map ay))),(3, .ptr bw 0),(6, .d (.aP [dI w.a,dI w.b])),(7, .d (dI (w.a+(i:Int))))],q.2⟩)
   (fun i q=>Fj f b bw bv q.2/\xs=q.1++(F i++post)/\pre++F 0=q.1++F i/\R q.1 q.2/\n<=q.2.boxes.length) 0 (pre,_) (az _) (by simp) ⟨I.1,T,rfl,Q _ _ _ (I.2.less aE) hR,by simp;omega⟩ (fun i q Y hq=> ?_) (fun q hq=> ?_)
  ·obtain⟨aiQ,bs,fz,ar⟩:=q
   obtain⟨o,l,m,r,apq⟩:=hq;simp only at o l m r apq;obtain⟨u,B,p3⟩:=o;simp only at u B;have l1:=(ab.1 u).1;have Z:w.a+(i:Int)<=w.b:=by omega
   have g6:ee .i64 (w.a+(i:Int)+1)=w.a+((i+1:Nat):Int):=by rw[aF (by omega)];omega
   rw[E i Y,br]at l;rw[E i Y]at m;have ax:∀y∈now.map ay,y.fits 1=true:=by intro y A;simp only[av]at A;obtain⟨z,_,rfl⟩:=A;rfl
   simp only[Z,u,l1,RN,H,J,V];refine mF rfl rfl (ahb (now.map ay) ax (by simp;omega)) (by simp) ?_;simp only[PV.shift,jw,a7,cf,cP];simp only[DV.strip,fU,RN];refine Qp (k:=ar.length) (xs:=now.map ay) (ver:=0) (st:=0) (skip:=0) (by simp) (by decide) (by decide) (by intro y A;simp only[aL]at A;subst A;rfl) (by simp;omega) ?_;have an7:(now.map ay).drop 0++ [dI (w.a+(i:Int))]=(now++ [w.a+(i:Int)]).map ay:=by
    rw[cv,aR];rfl
   rw[an7];have s:QG bs.length ⟨bs,fz,ar⟩ ⟨bs,fz,(ar++ [some (⟨1,now.map ay,0,0⟩:Arr)]).set ar.length (some ⟨1,(now++ [w.a+(i:Int)]).map ay,0+1,2⟩)⟩:=
    ⟨aw _,by simp,fun _ _=>rfl,fun _ _=>eb,fun j hj=>by simp only at hj⊢;rw[aq (by omega),ap hj],fun h=>h⟩
   refine qI (args:=[_]) (cs:=[_,_,_]) (by kernel_rfl) ?_;refine SC.mono (ih (S++ [w]) (now++ [w.a+(i:Int)]) false aiQ _ _ (by rw[g];simp) (by simp[t]) (fun h=>by cases h) l (Fj.Xg ⟨u,B,p3⟩ s) (Q _ _ _ (s.less apq) r)) ?_;rintro p ⟨D,X,U⟩ ⟨v,hp⟩;have P:n<=D.length:=by have:=(ab.1 v.w).1;simp only at this;omega
   rcases hp with⟨rfl,an⟩|⟨rfl,hs⟩
   ·simp only[g6,RN,H]
    exact dH (_,(⟨D,X,U⟩:Mem)) Y rfl ⟨v,by rw[l,br],by rw[m,br],an,P⟩
   ·(try simp only[RN,H])
    exact⟨v, .inr hs⟩
  ·obtain⟨aiQ,bs,fz,ar⟩:=q
   obtain⟨o,l,m,r, -⟩:=hq;simp only at o l m r;have Z:¬w.a+(N:Int)<=w.b:=by omega
   simp only[Z,RN,H,J,V];exact⟨o, .inl (by rw[m,am,cT];exact r)⟩
end
def agR (f:Fi)(hf:Je f):agG C 175 [] [.d (.aP [sF (f.ws.map Pr.dv),sF (f.ns.map Nt.dv)])] ((Bj f.ws []).map Nz):=by
 rintro⟨bs,fz,ar⟩ b n R stop K KP q j g i fV m a c;simp only at j;refine aB Hr dX ?_;have h:∀k,bs.length+k∉fz:=fun k e=>by have:=g _ e;simp only at this;omega
 have r:bs.length∉fz:=h 0;have u:¬bs.length+1=bs.length:=by omega
 simp only[Hr,dX,aX,bJ,br,ai,Nat.add_assoc,kQ,cells_func,J3,GN,GY,h,RN,H,J,V];refine qI (args:=[_]) (cs:=[_,_,_]) (by kernel_rfl) ?_;have l:Moved n (fun _=>False) ⟨bs,fz,ar⟩ ⟨bs++ [some [PV.mV b],some [.func (.func 176) [] [.d (.aP [sF (f.ws.map Pr.dv),sF (f.ns.map Nt.dv)]), .ptr bs.length 0, .ptr (bs.length+1) 0]]],[]++fz,ar⟩:=Moved.ext j (by simp);refine SC.mono (akf (f:=f) (bw:=bs.length+1) (bv:=bs.length) hf (by omega) j i fV f.ws [] [] true [] [] _ rfl rfl (fun _=>rfl) (by simp) ⟨by simp,by simp,by simpa using l.fzb g⟩ (i _ _ _ (by simpa using l.Xg (aw _)) m)) ?_;rintro p M' ⟨⟨x,v,y⟩,s⟩;have w:=(ab.1 v).1
 rcases s with⟨rfl,o⟩|⟨rfl,t⟩
 ·(try simp only[RN,H,J,O,S,U,V])
  exact c _ _ (by omega) (by simpa using o)
 ·(try simp only[RN,H,J,O,S,U,V])
  exact a _ _ t
def aoT (f:Fi):Pure C 123 [f.dv] (.d (.func (.func 175) [] [.aP [sF (f.ws.map Pr.dv),sF (f.ns.map Nt.dv)]])) []:=by
 refine ah MH aI ?_;rw[jo];simp only[MH,aI,RN,H]
def tDV (t:List Int):DV:=sF (t.map ay)
noncomputable def okG (f:Fi) (t:List Int):Bool:=(brk t f.ns f.ns.length).isEmpty
noncomputable def gsF (f:Fi):List (List Int):=(Bj f.ws []).filter (okG f)
variable{f:Fi}
def InW.aU (hf:Je f){t:List Int}(h:InW f.ws t):nJ f.ws.length t:=by
 refine⟨h.1,fun x a=> ?_⟩;obtain⟨i,hi,rfl⟩:=List.getElem_of_mem a;have h1:=h.2 i (by rw[<-h.1];exact hi);have h2:=Fg (hf.w _ (getD_mem (show i<f.ws.length by rw[<-h.1];exact hi)));have e:t.getD i default=t[i]:=by rw[ao,a6 hi];rfl
 rw[e]at h1;omega
def all_in (f:Fi){t:List Int}(h:t∈Bj f.ws []):InW f.ws t:=by
 have:=ac2 f.ws [] [] ⟨rfl,fun i hi=>by simp at hi⟩ t h
 simpa using this
def adl (f:Fi){t:List Int}(h:t∈gsF f):InW f.ws t:=all_in f (cU.1 h).1
def QJ:∀(ws:List Pr) (now:List Int),(∀w∈ws,w.b - w.a<=5)->(Bj ws now).length<=6 ^ ws.length
 | [],now,_=>by simp[Bj]
 |w::ws,now,h=>by
  have f:=h w (by simp);have d:=fun n=>QJ ws n (fun x c=>h x (by simp[c]))
  rw[Bj,List.length_flatMap,aM,d7];have:∀l:List Nat,(l.map fun(i:Nat)=>(Bj ws (now++ [w.a+(i:Int)])).length).sum<=l.length*6 ^ ws.length:=by
   intro l
   induction l with
   |nil=>simp
   |cons x l e=>
    simp only[a7,List.sum_cons,aM,Nat.add_mul];have:=d (now++ [w.a+(x:Int)]);omega
  refine d6 (this _) ?_;rw[ce,Nat.mul_comm];exact Nat.mul_le_mul_left _ (by omega)
def abE (hf:Je f):(gsF f).length<=46656:=by
 have h1:=QJ f.ws [] (fun w a=>(Fg (hf.w w a)).2);have h2:(gsF f).length<=(Bj f.ws []).length:=cj _ _;have b:6 ^ f.ws.length<=6 ^ 6:=cq (by decide) (by have:=hf.len;omega);have:(6:Nat) ^ 6=46656:=by decide
 omega
def Fi.cells3 (f:Fi)(c:PV):List PV:=[.d (sF (f.ws.map Pr.dv)), .d (sF (f.ns.map Nt.dv)),c]
noncomputable def gDV (f:Fi):DV:= .agg [sF (f.ws.map Pr.dv),sF (f.ns.map Nt.dv), .slice (gsF f).isEmpty ((gsF f).map tDV)]
def akv:gDV f= .agg [sF (f.ws.map Pr.dv),sF (f.ns.map Nt.dv), .slice (gsF f).isEmpty ((gsF f).map tDV)]:=by rw[gDV]
def Qs (f:Fi)(hf:Je f):Pure C 51 [f.dv] (.d (gDV f)) []:=by
 have p:=aoT f;have X:=abE hf;rw[jo]at p;refine bM (aB Ht Xv ?_);rw[jo];simp only[Ht,Xv,lX,RN,H,J,S,V];refine ak p ?_;refine S9 (agR f hf) rfl (by kernel_rfl) (by intro i hi;simp at hi⊢;omega) (fun x I=>by obtain⟨t,_,rfl⟩:=av.1 I;rfl)
  (fun v M=>∃b c,v=b.map Nz/\M.boxes[2]?=some (some [.d (sF (f.ws.map Pr.dv)), .d (sF (f.ns.map Nt.dv)),c])/\2∉M.fz/\M.boxes[1]?=some (some [.d (.slice true []), .d (.slice true []), .d (.slice true [])])/\1∉M.fz/\slN 1 false c ((b.filter (okG f)).map tDV) M.aC/\(c= .d (.slice true [])\/b.filter (okG f)≠[]))
  ?_ ⟨[], .d (.slice true []),rfl,rfl,by simp,rfl,by simp, .inl ⟨rfl,rfl⟩, .inl rfl⟩ ?_ ?_
 ·rintro v M1 M2 z ⟨b,c,rfl,m1,u,j,m,o,G⟩
  simp only[aM,be]at z;exact⟨b,c,rfl,(z.box 2 (by omega)).trans m1,fun h=>u ((z.fz 2 (by omega)).1 h),(z.box 1 (by omega)).trans j,fun h=>m ((z.fz 1 (by omega)).1 h),iK o fun k A _ h=>(z.row k (ab.1 h).1).trans h,G⟩
 ·rintro L cells v x post ⟨b1,U,R⟩ I q g r ⟨b,c,rfl,m1,u,j,m,o,G⟩ M0
  simp only at q g r m1 u j m o⊢;obtain⟨t,ht,rfl⟩:∃t,t∈Bj f.ws []/\Nz t=x:=by
   have:x∈(Bj f.ws []).map Nz:=by rw[I];simp
   simpa using this
  have B:=agW f hf t (InW.aU hf (all_in f ht));rw[jo]at B;have Z:(b.filter (okG f)).length<=46656:=by
   have h1:=congrArg db I;simp only[W,ai,aM]at h1;have h2:=QJ f.ws [] (fun w hw=>(Fg (hf.w w hw)).2);have h3:6 ^ f.ws.length<=6 ^ 6:=cq (by decide) (by have:=hf.len;omega);have h4:(6:Nat) ^ 6=46656:=by decide
   have h5:(b.filter (okG f)).length<=b.length:=cj _ _;omega
  have E:=(ab.1 m1).1;simp only[kE,Nz,b8,ch,RN,H,J,V];refine ak B ?_;have e:((((brk t f.ns f.ns.length).length:Nat):Int)==0)=okG f t:=by
   rw[okG];cases brk t f.ns f.ns.length with
   |nil=>rfl
   |cons a l=>simp;omega
  simp only[W,e,RN];have afp:(b++ [t]).filter (okG f)=b.filter (okG f)++bif okG f t then[t]else[]:=by
   rw[dj];cases h:okG f t<;>simp[h]
  cases F:okG f t
  ·rw[F]at afp
   simp only[kE,RN,H,J];exact⟨g,r,Kept.refl _,b++ [t],c,by simp[Nz],m1,u,j,m,by rw[afp];simpa using o,by rw[afp];simpa using G⟩
  ·rw[F]at afp
   obtain⟨o1,o2,o3⟩:=CB o;have dst:∀xs:List DV,(DV.slice false xs).strip= .slice false xs:=fun _=>rfl
   have K:∀xs:List DV,(DV.slice false xs).cells.length=1:=fun _=>rfl
   simp only[m1,gB,dst,K,eq_self,RN,H,J,V];refine wY o (by decide) (by intro y P;simp only[aL]at P;subst P;rfl) (by simp) (by simp;omega) fun Q ver st T s1 s2 s3 s4 s5 _=> ?_
   simp only[kE,m1,u,dJ,dO,RN,J,V];refine⟨?_,r,Kept.Ik (by decide) (fun h=>h) s4 (fun _ h=>h.elim),b++ [t], .tsl Q ver 0,by simp[Nz],ax E,by rw[aq (by decide)];exact j,m, .inr ⟨Q,ver,st,rfl,?_,s5,by simp⟩, .inr (by rw[afp];simp)⟩
   ·rw[aq (by decide)];exact g
   ·rw[s2,afp,aR];rfl
 ·rintro⟨b1,U,R⟩ ⟨b,c,s,m1,u,j,m,o,G⟩ q
  have s:b=Bj f.ws []:=by
   have:=congrArg (d9 fun x:List DV=>match x with| [DV.slice _ l]=>l.map (fun d=>match d with|DV.int _ n=>n| _=>(0:Int))| _=>[]) s
   simpa[Nz,ay,dl]using this.symm
  subst s;simp only at m1 u j m o;have D:=(ab.1 j).1;have E:=(ab.1 m1).1
  rcases o with⟨rfl,hn⟩|⟨k,ver,st,rfl,Y, -, -⟩
  ·simp only[m1,j,m,ax D,RN,H,J,V]
   have N:gsF f=[]:=List.map_eq_nil_iff.1 hn;simp[datum,gDV,N]
  ·simp only[m1,j,m,gQ,dO,bD,dy,dD,ax D,RN,H,J,V]
   have N:gsF f≠[]:=G.resolve_left (by simp);have O:(gsF f).isEmpty=false:=by rw[<-cI,dq];exact N
   simp[datum,bT,dR,Mem.row,Y,gDV,O]
   rfl
def ad6 (f:Fi)(hf:Je f):Pure C 20 [f.dv] (.d (.tup [dI (gsF f).length,dI 0])) []:=by
 have h1:=LQ f hf;have h2:=Qs f hf;rw[jo]at h1 h2;rw[akv]at h2;refine ah Dy OC ?_;rw[jo];simp only[Dy,OC,RN,H,J,V];refine ak h1 ?_;(try simp only[RN,H,J,V]);refine ak h2 ?_;simp only[W,RN,J,V]
def akh (f:Fi)(hf:Je f)(a:gsF f=[]):Pure C 56 [f.dv, .bool true] (.d (.tup [.agg [.slice true [], .slice true [], .slice true []],dI 7])) []:=by
 have h1:=LQ f hf;have h2:=Qs f hf;rw[jo]at h1 h2;rw[akv,a]at h2;have z:(((0:Nat):Int)==0)=true:=rfl;refine ah uy Ij ?_;rw[jo];simp only[uy,Ij,RN,H,J,V];refine ak h1 ?_;(try simp only[RN,H,J,V]);refine ak h2 ?_;simp only[be,z,RN,H,J,S,V]
def aki (f:Fi)(hf:Je f)(b:gsF f≠[]):Pure C 56 [f.dv, .bool true] (.d (.tup [.agg [sF (f.ws.map Pr.dv),sF (f.ns.map Nt.dv),sF ((gsF f).map tDV)],dI 0])) []:=by
 have h1:=LQ f hf;have h2:=Qs f hf;have a:(gsF f).isEmpty=false:=by rw[<-cI,dq];exact b
 rw[jo]at h1 h2;rw[akv,a]at h2;have z:((((gsF f).length:Nat):Int)==0)=false:=by
  have:(gsF f).length≠0:=fun e=>b (bu.1 e)
  simp;omega
 refine ah uy Ij ?_;rw[jo];simp only[uy,Ij,RN,H,J,V];refine ak h1 ?_;(try simp only[RN,H,J,V]);refine ak h2 ?_;simp only[W,z,RN,H,J,S,V]
def gTr (t:List Int):List Pr:=o8 t (t.length / 2)
def abD (hf:Je f){t:List Int}(h:nJ f.ws.length t):fF (gTr t)=true/\(gTr t).length=f.ws.length / 2:=by
 have b:=h.1;have c:=hf.len;have e:(gTr t).length=f.ws.length / 2:=by simp[gTr,o8,b]
 refine⟨?_,e⟩;simp only[fF,inR,bN,decide_eq_true_eq,cn,ge_iff_le,Pr.ok,aT];refine⟨by omega,fun p a=> ?_⟩;simp only[gTr,o8,av,bA]at a;obtain⟨i,hi,rfl⟩:=a;have h1:=h.get (show 2*i<f.ws.length by omega);have h2:=h.get (show 2*i+1<f.ws.length by omega);simp only;omega
def trL (t:List Int):List DV:=[Bg (gTr t)]
def aap (f:Fi)(a:List (List Int))(hl:a.length<=1000000)(F:∀t∈a,2<=t.length/\t.length<=1000):agG C 58 [] [.d (.aP [sF (f.ws.map Pr.dv),sF (f.ns.map Nt.dv),sF (a.map tDV)])] (a.map trL):=by
 rintro M b n R stop K KP D x E N fV B e h;refine aB Ah dX ?_;obtain⟨bs,fz,ar⟩:=M;simp only at x;simp only[Ah,dX,W,RN,H,J,V];refine aG a.length (fun i (M:Mem)=>⟨[(0, .mV b),(6, .d (sF (a.map tDV))),(7,pI a.length),(8,pI i)],M⟩)
  (fun i M=>n<=M.boxes.length/\R ((a.take i).map trL) M) 0 _ (az _) rfl ⟨x,by simpa using B⟩ (fun i M g s=> ?_) (fun M s=> ?_)
 ·obtain⟨bs,fz,ar⟩:=M
  obtain⟨c,j⟩:=s;simp only at c;obtain⟨y,z,A⟩:=rng g hl;obtain⟨t,k⟩:∃t,t=a.getD i default:=⟨_,rfl⟩
  obtain⟨t1,t2⟩:=F t (by rw[k];exact getD_mem g);have w:=ahR t t2 t1;have q:∀l,(tDV l).cells=[tDV l]:=fun _=>rfl
  simp only[y,z,g,getD_map,ae,W,<-k,q,aw,RN,H];refine ak w ?_;refine um ?_;have O:=fV ((a.take i).map trL) (trL t) ((a.drop (i+1)).map trL) ⟨bs,fz,ar⟩ (by
   rw[k,<-a7,<-drop_cons g,<-aR,cX]) c j
  refine SY.mono O ?_;rintro p ⟨o,r,m⟩ ⟨G,I⟩;have v:=G.len;simp only at v
  rcases I with⟨rfl,u⟩|⟨rfl,L⟩
  ·simp only[A,RN,H]
   exact dH (⟨o,r,m⟩:Mem) g rfl ⟨by simp only;omega,by rw[bf g,aR,<-k];exact u⟩
  ·(try simp only[RN,H])
   exact e _ _ L
 ·obtain⟨bs,fz,ar⟩:=M
  obtain⟨c,j⟩:=s;rw[bO]at j;simp only[aE,RN,H];exact h _ _ c j
def ltN (x:Fr)(a b:List Pr):Bool:=decide (Bl (Vh x a b) 0<0)
def WE (x:Fr)(a b:List Pr)(hx:x.ok=true)(c:fF a=true)(hb:fF b=true):Pure C 60 [sF (a.map Pr.dv),sF (b.map Pr.dv), .aP [dI x.n,dI x.d]] (.d (.bool (ltN x a b))) []:=by
 have h:=X0 x a b hx c hb;rw[aS]at h;refine ah Ai wJ ?_;simp only[Ai,wJ,RN,H,J,V];refine ak h ?_;simp only[ltN,RN]
def ak0 (f:Fi)(x:Fr)(e:List (List Int))(hl:e.length<=1000000)(hg:∀t∈e,2<=t.length/\t.length<=1000)(I:∀t∈e,fF (gTr t)=true)(hx:x.ok=true)(ae:e≠[]):
  Pure C 59 [.func (.func 58) [] [.aP [sF (f.ws.map Pr.dv),sF (f.ns.map Nt.dv),sF (e.map tDV)]], .func (.func 60) [] [.aP [dI x.n,dI x.d]]] (.d (Bg (jR (ltN x) (e.map gTr) e.length))) []:=by
 refine bM (aB nM aH ?_);have az:∀f c,DV.one (.func f [] c)=true:=fun _ _=>rfl
 have aw:∀f c,DV.cells (.func f [] c)=[.func f [] c]:=fun _ _=>rfl
 simp only[nM,aH,lX,RN,H,J,S,V];obtain⟨A,R⟩:∃A,A=e.map gTr:=⟨_,rfl⟩
 have ap:A.length=e.length:=by rw[R,W]
 have T:∀i,i<e.length->A.getD i default=gTr (e.getD i default):=by
  intro i hi;rw[R,ao,bt,a6 hi,ao,a6 hi];rfl
 have U:∀a∈A,fF a=true:=by
  intro a ha;rw[R]at ha;obtain⟨t,K,rfl⟩:=av.1 ha;exact I t K
 rw[<-R];refine S9 (aap f e hl hg) rfl (by kernel_rfl) (by intro i hi;simp at hi⊢;omega) (fun x hx=>by obtain⟨t,_,rfl⟩:=av.1 hx;rfl)
  (fun u M=>∃(b:List (List Int)) (c:DV) (m:Bool),u=b.map trL/\M.boxes[1]?=some (some [.d c])/\M.boxes[2]?=some (some [.d (.bool m)])/\1∉M.fz/\2∉M.fz/\((b=[]/\c= .slice true []/\m=false)\/(0<b.length/\m=true/\c=Bg (jR (ltN x) A b.length))))
  ?_ ⟨[], .slice true [],false,rfl,rfl,rfl,by simp,by simp, .inl ⟨rfl,rfl,rfl⟩⟩ ?_ ?_
 ·rintro u M1 M2 G ⟨b,c,m,rfl,m1,o,r,s,N⟩
  simp only[aM,be]at G;exact⟨b,c,m,rfl,(G.box 1 (by omega)).trans m1,(G.box 2 (by omega)).trans o,fun h=>r ((G.fz 1 (by omega)).1 h),fun h=>s ((G.fz 2 (by omega)).1 h),N⟩
 ·rintro L cells u y post ⟨b1,Q,P⟩ hy p j k ⟨b,c,m,rfl,m1,o,r,s,N⟩ M0
  simp only at p j k m1 o r s⊢;have g:b.length<e.length:=by
   have:=congrArg db hy;simp only[W,ai,aM]at this;omega
  obtain⟨t,K⟩:∃t,t=e.getD b.length default:=⟨_,rfl⟩
  obtain rfl:y=trL t:=by
   have:=congrArg (fun l=>l[b.length]?) hy;simp only[bt]at this;rw[List.getElem?_append_right (by simp),a6 g]at this;simp only[W,Nat.sub_self,List.getElem?_cons_zero,dz,Option.some.injEq]at this;rw[K,ao,a6 g];exact this.symm
  have am:t∈e:=by rw[K];exact getD_mem g
  have z:jR (ltN x) A (b.length+1)=if b.length=0\/ltN x (gTr t) (jR (ltN x) A b.length)=true then gTr t else jR (ltN x) A b.length:=by
   rw[jR,T _ g,<-K]
  have q:=(ab.1 m1).1;have E:=(ab.1 o).1;have O:∀X,(b1.set 1 X)[2]?=b1[2]?:=fun X=>aq (by decide)
  have w:∀l,PV.cells (.d (Bg l))=[.d (Bg l)]:=fun _=>rfl
  have v:∀l,DV.one (Bg l)=true:=fun _=>rfl
  have D:∀X Y,Kept (3+1) no no ⟨b1,Q,P⟩ ⟨(b1.set 1 X).set 2 Y,Q,P⟩:=fun X Y=>(Kept.set (M:=⟨b1,Q,P⟩) (by decide) (fun h=>h)).set2 (by decide) (fun h=>h)
  rcases N with⟨rfl,rfl,rfl⟩|⟨q1,rfl,rfl⟩
  ·simp only[kE,trL,b8,ch,m1,o,r,s,O,w,v,RN,H,J,V]
   refine⟨?_,k,D _ _,[t],Bg (gTr t),true,rfl,?_,?_, .inr ⟨by simp,rfl,?_⟩⟩
   ·rw[aq (by decide),aq (by decide)];exact j
   ·rw[aq (by decide),ax q]
   ·rw[ax (by rw[bh];exact E)]
   ·rw[cl]
    rw[be]at z;rw[z,if_pos (.inl rfl)]
  ·obtain⟨bb,B⟩:∃bb,bb=jR (ltN x) A b.length:=⟨_,rfl⟩
   have Z:fF bb=true:=by rw[B];exact U _ (sH q1 (by omega))
   have ac:=WE x (gTr t) bb hx (I t am) Z;rw[<-B]at m1 z;simp only[trL,b8,ch,m1,o,RN,H,J,V];refine ig rfl (by kernel_rfl) rfl ac ?_;cases F:ltN x (gTr t) bb
   ·simp only[kE,RN,H,J]
    exact⟨j,k,Kept.refl _,b++ [t],Bg bb,true,by simp[trL],m1,o,r,s, .inr ⟨by simp,rfl,by rw[ai,cl,z,F,if_neg (fun h=>h.elim (fun h=>by omega) (fun h=>by cases h))]⟩⟩
   ·simp only[kE,m1,o,r,s,O,w,v,RN,H,J,V]
    refine⟨?_,k,D _ _,b++ [t],Bg (gTr t),true,by simp[trL],?_,?_, .inr ⟨by simp,rfl,?_⟩⟩
    ·rw[aq (by decide),aq (by decide)];exact j
    ·rw[aq (by decide),ax q]
    ·rw[ax (by rw[bh];exact E)]
    ·rw[ai,cl,z,F,if_pos (.inr rfl)]
 ·rintro⟨b1,Q,P⟩ ⟨b,c,m,an,m1,o,r,s,N⟩ p
  have g:b.length=e.length:=by
   have:=congrArg db an
   simpa using this.symm
  obtain⟨-,rfl,rfl⟩:=N.resolve_left (by rintro⟨rfl, -⟩;exact ae (bu.1 g.symm));simp only at m1;have q:=(ab.1 m1).1;simp only[m1,RN,H,V];rw[g]
  rfl
noncomputable def aix (f:Fi) (x:Fr):List Pr:=jR (ltN x) ((gsF f).map gTr) (gsF f).length
def aiy (f:Fi)(x:Fr)(a:gsF f≠[]):∃t∈gsF f,aix f x=gTr t:=by
 have h:aix f x∈(gsF f).map gTr:=sH (ct.2 a) (by simp);obtain⟨t,h1,h2⟩:=av.1 h;exact⟨t,h1,h2.symm⟩
def abB (f:Fi)(hf:Je f)(x:Fr)(hx:x.ok=true)(a:gsF f=[]):Pure C 22 [f.dv,x.dv] (.d (.tup [.slice true [],dI 7])) []:=by
 have h1:=Qr x;have h2:=akh f hf a;rw[hx,aS]at h1;rw[jo]at h2;have z:((7:Int) !=0)=true:=rfl;refine ah oU bn ?_;rw[jo,aS];simp only[oU,bn,RN,H,J,O,V];refine ak h1 ?_;(try simp only[RN,H,J,O,S,U,V]);refine ak h2 ?_;simp only[z,RN,H,J,S,V]
def abC (f:Fi)(hf:Je f)(x:Fr)(hx:x.ok=true)(b:gsF f≠[]):Pure C 22 [f.dv,x.dv] (.d (.tup [Bg (aix f x),dI 0])) []:=by
 have h1:=Qr x;have h2:=aki f hf b;have c:=hf.len;have g:=abE hf;have e:=ak0 f x (gsF f) (by omega) (fun t a=>by have:=(adl f a).1;omega) (fun t a=>(abD hf (InW.aU hf (adl f a))).1) hx b;rw[hx,aS]at h1;rw[jo]at h2;have z:((0:Int) !=0)=false:=rfl;refine ah oU bn ?_;rw[jo,aS];simp only[oU,bn,RN,H,J,O,V];refine ak h1 ?_;(try simp only[RN,H,J,O,S,U,V]);refine ak h2 ?_;simp only[z,RN,H,J,S,V];refine ak e ?_;(try simp only[RN])
 rfl
def jr:aA:=(sr [mf 10 true] 0 [0,1,2,3,4,10] (sr [mf 11 true] 0 [0,1,2,3,4,10,11] (lp (b1 (sr [mv 21 2,mv 22 1,ob 23 pU 21 22,mv 12 23] 0 [0,1,2,3,4,10,11,12] (sw (sr [mv 24 12,oi 25 (.bin .leq) 24 12] 0 [0,1,2,3,4,10,11,12,25] (cd 25 (sr [mv 26 0,mv 27 1,mv 28 2,mv 29 4,on 30 (.call 183) [.t 26,.t 27,.t 28,.t 29]] 0 [] .ret) .skip)) (sw (sr [mv 31 3,oi 32 pE 31 0] 0 [0,1,2,3,4,10,11,12,32] (cd 32 (sr [mv 33 0,mv 34 1,mv 35 2,mv 36 4,on 37 (.aj 184) [.t 33,.t 34,.t 35,.t 36]] 0 [] .ret) .skip)) (sw (sr [mv 38 10,oa 39 pN 38] 0 [0,1,2,3,4,10,11,12,39] (cd 39 (sr [mv 40 0,mv 41 1,mv 42 2,mv 43 4,on 44 (.aj 185) [.t 40,.t 41,.t 42,.t 43]] 0 [0,1,2,3,4,10,11,12] (rg [mv 45 3,oi 46 pU 45 1,mv 3 46] 0 [0,1,2,3,4,10,11,12])) .skip)) (sr [mv 48 0,mv 49 1,mv 50 2,mv 51 4,on 52 (.aj 186) [.t 48,.t 49,.t 50,.t 51],mv 47 52,xa 53 0 47,xa 54 1 47,mv 13 53,mv 14 54] 0 [0,1,2,3,4,10,11,12,13,14] (sw (sr [mv 55 14,oi 56 pE 55 2] 0 [0,1,2,3,4,10,11,12,13,14,56] (cd 56 (sr [mv 57 0,mv 58 1,mv 59 2,mv 60 4,on 61 (.aj 187) [.t 57,.t 58,.t 59,.t 60]] 0 [0,1,2,3,4,10,11,12,13] (sr [mv 62 2,oi 63 pU 62 1,mv 64 13,mv 65 1,ob 66 pU 64 65,ob 67 pU 63 66,mv 13 67] 0 [0,1,2,3,4,10,11,12,13] (rg [mi 14 1] 0 [0,1,2,3,4,10,11,12,13,14]))) .skip)) (sw (sr [mv 68 10,mv 69 68,ov 70 .mov 11 69 0,pf 71 69 70,mv 72 71,ov 73 .mov 14 72 0,ot 74 pE [.t 73,kI 1] 72 0,pf 75 72 74] 0 [0,1,2,3,4,10,11,12,13,75] (cd 75 (sr [mv 76 0,mv 77 1,mv 78 2,mv 79 4,on 80 (.aj 188) [.t 76,.t 77,.t 78,.t 79]] 0 [0,1,2,3,4,10,11,12,13,80] (cd 80 .ret .skip)) .skip)) (sw (sw (r1 [mv 81 1,oi 82 pG 81 0,mv 83 82,ov 84 .mov 4 83 0,ov 85 .mov 0 83 0,ov 86 .mov 1 83 0,ot 87 pU [.t 86,kI 1] 83 0,obT 88 (.bH 2) 85 87 83 1,ov 89 (.load true 2) 88 83 1,ov 90 .mov 0 83 0,ov 91 .mov 13 83 0,obT 92 (.bH 2) 90 91 83 1,ov 93 (.load true 2) 92 83 1,ot 94 .dQ [.t 84,.t 89,.t 93] 83 0,ot 95 pL [.t 94,kI 0] 83 0,ov 96 pN 95 83 0,pf 97 83 96] 0 [0,1,2,3,4,10,11,12,13,97] []) (cd 97 (sr [mv 98 0,mv 99 1,mv 100 2,mv 101 13,mv 102 4,on 103 (.aj 189) [.t 98,.t 99,.t 100,.t 101,.t 102],mv 15 103] 0 [0,2,3,4,10,11,15] (sr [mv 104 15,mv 1 104] 0 [0,1,2,3,4,10,11] (.exit 1))) .skip)) (sr [mv 106 0,mv 107 1,mv 108 2,mv 109 13,mv 110 4,on 111 (.aj 190) [.t 106,.t 107,.t 108,.t 109,.t 110],mv 105 111,xa 112 0 105,xa 113 1 105,mv 16 112,mv 17 113] 0 [0,1,2,3,4,12,16,17] (sr [mv 114 17,mv 11 114] 0 [0,1,2,3,4,11,12,16] (sr [mv 115 16,mv 116 1,ob 117 pU 115 116,mv 118 2,mv 119 16,ob 120 pU 118 119,mv 18 117,mv 19 120] 0 [0,1,2,3,4,11,12,16,18,19] (sr [mv 121 12,oi 122 (.bin .quo) 121 8,mv 20 122] 0 [0,1,2,3,4,11,16,18,19,20] (sr [mv 123 18,mv 124 19,ob 125 pL 123 124] 0 [0,1,2,3,4,11,16,18,19,20,125] (cd 125 (sr [mv 126 18,mv 127 20,ob 128 (.bin .geq) 126 127,mv 10 128] 0 [0,1,2,3,4,10,11,16] (sr [mv 129 0,mv 130 1,mv 131 16,mv 132 3,mv 133 4,on 134 (.aj 125) [.t 129,.t 130,.t 131,.t 132,.t 133]] 0 [0,2,3,4,10,11,16] (rg [mv 135 16,oi 136 pA 135 1,mv 1 136] 0 [0,1,2,3,4,10,11]))) (sr [mv 137 19,mv 138 20,ob 139 (.bin .geq) 137 138,mv 10 139] 0 [0,1,2,3,4,10,11,16] (sr [mv 140 0,mv 141 16,oi 142 pA 141 1,mv 143 2,mv 144 3,mv 145 4,on 146 (.aj 125) [.t 140,.t 142,.t 143,.t 144,.t 145]] 0 [0,1,3,4,10,11,16] (rg [mv 147 16,mv 2 147] 0 [0,1,2,3,4,10,11])))))))))))))))))))))
def Pz:aA:=(sr [mi 2 0] 0 [0] (sw (.cond (.c (.bool false)) (sr [mv 3 0,oa 4 (.conv .u32) 3,oa 5 (.aj 191) 4,mv 2 5] 0 [2] .ret) .skip) (sr [mv 6 0,oa 7 (.aj 192) 6,mv 2 7] 0 [2] .ret)))
def gY:aA:=(sr [mv 10 1,oi 11 pA 10 1,mv 8 11] 0 [0,1,2,3,8] (lp (sw (sr [mv 12 8,mv 13 2,ob 14 pL 12 13] 0 [0,1,2,3,8,14] (cx 14 0)) (sw (b1 (sr [mv 17 8,mv 9 17] 0 [0,1,2,3,8,9] (.block 2 (.loop (sw (sw (r1 [mv 18 9,mv 19 1,ob 20 pG 18 19,mv 21 20,ov 22 .mov 3 21 0,ov 23 .mov 0 21 0,ov 24 .mov 9 21 0,obT 25 (.bH 2) 23 24 21 0,ov 26 (.load true 2) 25 21 3,ov 27 .mov 0 21 0,ov 28 .mov 9 21 0,ot 29 pU [.t 28,kI 1] 21 0,obT 30 (.bH 2) 27 29 21 0,ov 31 (.load true 2) 30 21 3,ot 32 .dQ [.t 22,.t 26,.t 31] 21 0,ot 33 pL [.t 32,kI 0] 21 0,pf 34 21 33] 0 [0,1,2,3,8,9,34] []) (cx 34 2)) (sw (.block 3 (r1 [mv 37 0,mv 38 9,mv 39 0,mv 40 9,oi 41 pU 40 1,mv 42 0,mv 43 9,oi 44 pU 43 1,ix 45 2 42 44,ou 46 (.load true 2) 45 3,mv 47 0,mv 48 9,ix 49 2 47 48,ou 50 (.load true 2) 49 3,ix 51 2 37 38,sk 2 51 46 3,ix 52 2 39 41,sk 2 52 50 3] 0 [0,1,2,3,8,9] [])) (rg [mv 35 9,oi 36 pU 35 1,mv 9 36] 0 [0,1,2,3,8,9]))))))) (rg [mv 15 8,oi 16 pA 15 1,mv 8 16] 0 [0,1,2,3,8])))))
def qL:aA:=(sr [mi 2 0] 0 [0,2] (sw (sr [mv 3 0,oc 4 (.bin .geq) 3 (.c (.int .u64 4294967296))] 0 [0,2,4] (cd 4 (sr [mv 5 0,oc 6 (.shf .shr) 5 (.c (.int .u64 32)),mv 0 6] 0 [0] (rg [mi 2 32] 0 [0,2])) .skip)) (sw (sr [mv 7 0,oc 8 (.bin .geq) 7 (.c (.int .u64 65536))] 0 [0,2,8] (cd 8 (sr [mv 9 0,oc 10 (.shf .shr) 9 (.c (.int .u64 16)),mv 0 10] 0 [0,2] (rg [mv 11 2,oi 12 pA 11 16,mv 2 12] 0 [0,2])) .skip)) (sw (sr [mv 13 0,oc 14 (.bin .geq) 13 (.c (.int .u64 256))] 0 [0,2,14] (cd 14 (sr [mv 15 0,oc 16 (.shf .shr) 15 (.c (.int .u64 8)),mv 0 16] 0 [0,2] (rg [mv 17 2,oi 18 pA 17 8,mv 2 18] 0 [0,2])) .skip)) (sr [mv 19 2,mv 20 0,oa 21 (.conv .u8) 20,on 22 .WQ [.c (.str ⟨#[0,1,2,2,3,3,3,3,4,4,4,4,4,4,4,4,5,5,5,5,5,5,5,5,5,5,5,5,5,5,5,5,6,6,6,6,6,6,6,6,6,6,6,6,6,6,6,6,6,6,6,6,6,6,6,6,6,6,6,6,6,6,6,6,7,7,7,7,7,7,7,7,7,7,7,7,7,7,7,7,7,7,7,7,7,7,7,7,7,7,7,7,7,7,7,7,7,7,7,7,7,7,7,7,7,7,7,7,7,7,7,7,7,7,7,7,7,7,7,7,7,7,7,7,7,7,7,7,8,8,8,8,8,8,8,8,8,8,8,8,8,8,8,8,8,8,8,8,8,8,8,8,8,8,8,8,8,8,8,8,8,8,8,8,8,8,8,8,8,8,8,8,8,8,8,8,8,8,8,8,8,8,8,8,8,8,8,8,8,8,8,8,8,8,8,8,8,8,8,8,8,8,8,8,8,8,8,8,8,8,8,8,8,8,8,8,8,8,8,8,8,8,8,8,8,8,8,8,8,8,8,8,8,8,8,8,8,8,8,8,8,8,8,8,8,8,8,8,8,8,8,8,8,8,8,8]⟩),.t 21],oa 23 (.conv .i64) 22,ob 24 pA 19 23,mv 2 24] 0 [2] .ret)))))
def kJ:aA:=(sr [mv 5 0,oa 6 .len 5,mv 4 6] 0 [0,1,4] (rg [mv 7 0,mv 8 4,mv 9 4,oa 10 (.conv .u64) 9,oa 11 (.aj 126) 10,mv 12 1,on 13 (.call 125) [.t 7,kI 0,.t 8,.t 11,.t 12]] 0 []))
def before (p q:Pr):Bool:=decide (p.a<q.a)||((p.a==q.a)&&decide (p.b<q.b))
def Ej {p q:Pr}:before p q=true↔p.a<q.a\/p.a=q.a/\p.b<q.b:=by simp[before]
def down:Nat->List Pr->List Pr
 |0,l=>l
 |j+1,l=>if before (l.getD (j+1) default) (l.getD j default)=true then down j ((l.set (j+1) (l.getD j default)).set j (l.getD (j+1) default))else l
def vC (l:List Pr):Nat->List Pr
 |0=>l
 |i+1=>down i (vC l i)
def YE:∀(j:Nat) (l:List Pr),(down j l).length=l.length
 |0,l=>rfl
 |j+1,l=>by
  rw[down]
  split
  ·rw[YE j];simp
  ·rfl
def YF:∀(j:Nat) (l:List Pr),j<l.length->∀p∈down j l,p∈l
 |0,l,_,p,h=>h
 |j+1,l,a,p,h=>by
  rw[down]at h
  split at h
  ·have:=YF j _ (by simp;omega) p h
   rcases bB this with h|rfl
   ·rcases bB h with h|rfl
    ·exact h
    ·exact getD_mem (by omega)
   ·exact getD_mem a
  ·exact h
def Dx (l:List Pr):∀i,(vC l i).length=l.length
 |0=>rfl
 |i+1=>by rw[vC,YE,Dx l i]
def SK (l:List Pr):∀i,i<=l.length->∀p∈vC l i,p∈l
 |0,_,p,h=>h
 |i+1,hi,p,h=>SK l i (by omega) p (YF i _ (by rw[Dx];omega) p h)
variable{l:List Pr}
def ZB (hl:l.length<=3):VU (vC l l.length):=by
 match l,hl with
 | [],_=>intro i hi;simp[vC]at hi
 | [p],_=>intro i hi;simp[vC,down]at hi
 | [p,q],_=>
  have e:vC [p,q] [p,q].length=if before q p=true then[q,p]else[p,q]:=by
   simp[vC,down]
  rw[e];intro i hi
  split at hi<;>rename_i h<;>simp only[Ej]at h
  all_goals
   obtain rfl:i=0:=by simp at hi;omega
   simp only[*,if_true,if_false,dd,de,Ej];refine EM ?_;omega
 | [p,q,r],_=>
  have e:vC [p,q,r] [p,q,r].length=if before q p=true then(if before r p=true then(if before r q=true then[r,q,p]else[q,r,p])else[q,p,r])else(if before r q=true then(if before r p=true then[r,p,q]else[p,r,q])else[p,q,r]):=by
   by_cases h1:before q p=true<;>by_cases h2:before r p=true<;>by_cases b:before r q=true<;>simp[vC,down,h1,h2,b]
  rw[e];intro i hi
  split at hi<;>(try split at hi)<;>(try split at hi)
  all_goals
   have a:i=0\/i=1:=by simp at hi;omega
   simp only[Ej]at*
   rcases a with rfl|rfl
   all_goals
    simp only[*,if_true,if_false,dd,de];refine EM ?_;omega
def afZ (p q:Pr):Pure C 74 [p.dv,q.dv] (.d (.bool (before p q))) []:=by
 refine ah wV aH ?_;rw[dW,dW,before]
 by_cases h1:p.a<q.a
 ·simp only[wV,aH,h1,Bool.true_or,RN,H,J,V]
 ·cases h2:(p.a==q.a)
  ·simp only[wV,aH,h1,h2,cF,dC,RN,H,J,V]
  ·simp only[wV,aH,h1,h2,cF,RN,H,J,V]
def aeS (p q:Pr):Int:=if p.a=q.a then p.b - q.b else p.a - q.a
def akr (p q:Pr):decide (aeS p q<0)=before p q:=by
 rw[du,Ej,decide_eq_true_eq,aeS]
 split<;>omega
def PrB (p:Pr):Prop:=(4<=p.a/\p.a<=60)/\4<=p.b/\p.b<=60
def aea (p q:Pr)(c:PrB p)(d:PrB q):Pure C 55 [p.dv,q.dv] (pI (aeS p q)) []:=by
 obtain⟨f,g⟩:=c;obtain⟨i,j⟩:=d;have w1:ee .i64 (p.a - q.a)=p.a - q.a:=aF (by omega);have e:ee .i64 (p.b - q.b)=p.b - q.b:=aF (by omega);refine ah wH aH ?_;rw[dW,dW,aeS]
 by_cases h:p.a=q.a
 ·have z:(p.a !=q.a)=false:=by rw[h];simp
  simp only[wH,aH,z,e,RN,H,J,V];rw[if_pos h]
 ·have z:(p.a !=q.a)=true:=bne_iff_ne.2 h
  simp only[wH,aH,z,w1,RN,H,J,V];rw[if_neg h]
def amb {α:Type}{l:List α}{k:Nat}{x:α}(h:l[k]?=some x):l.set k x=l:=by
 apply bS;intro i;rw[bX]
 split
 ·rename_i e;subst e;rw[if_pos (ab.1 h).1,h]
 ·rfl
def XF {i:Nat}(q:Pr)(hi:i<l.length):(l.map Pr.dv).set i (setCells ((l.map Pr.dv).getD i default) 0 [dI q.a,dI q.b])=(l.set i q).map Pr.dv:=by
 rw[getD_map hi,d5];rfl
def abS (l:List Pr)(hl:l.length<=1000)(h1:1<=l.length)(hb:∀p∈l,PrB p)(bs:List (Option (List PV)))(fz:List Nat)(ar:List (Option Arr))(k ver:Nat)(hk:ar[k]?=some (some ⟨2,l.map Pr.dv,ver,1⟩)):
  SC C 183 [.tsl k ver 0,pI 0,pI l.length, .d (.func (.func 55) [] [])] ⟨bs,fz,ar⟩ (fun _ M'=>M'=⟨bs,fz,ar.set k (some ⟨2,(vC l l.length).map Pr.dv,ver,1⟩)⟩) (fun _ _=>False):=by
 have x:=(ab.1 hk).1;have I:ee .i64 ((0:Int)+1)=((1:Nat):Int):=by decide
 refine aB gY dX ?_;simp only[gY,dX,I,RN,H,J];refine aG l.length (fun i (_:Unit)=>⟨[(0, .tsl k ver 0),(1,pI 0),(2,pI l.length),(3, .d (.func (.func 55) [] [])),(8,pI i)],⟨bs,fz,ar.set k (some ⟨2,(vC l i).map Pr.dv,ver,1⟩)⟩⟩)
  (fun i _=>1<=i) 1 () h1 (by show _=(⟨_,⟨bs,fz,ar.set k (some ⟨2,l.map Pr.dv,ver,1⟩)⟩⟩:St);rw[amb hk]) (aw 1) (fun i _ w hi=> ?_) (fun _ hi=> ?_)
 ·obtain⟨G,K,B⟩:=rng w (by omega)
  simp only[G,RN,H];refine kN (fun(q:Nat×List Pr)=>⟨[(0, .tsl k ver 0),(1,pI 0),(2,pI l.length),(3, .d (.func (.func 55) [] [])),(8,pI i),(9,pI q.1)],⟨bs,fz,ar.set k (some ⟨2,q.2.map Pr.dv,ver,1⟩)⟩⟩)
   (fun q=>q.1<=i/\q.2.length=l.length/\(∀p∈q.2,PrB p)/\down q.1 q.2=vC l (i+1)) (fun q=>q.1) (i,vC l i) rfl ⟨aw _,Dx l i,fun p g=>hb p (SK l i (by omega) p g),rfl⟩ ?_
  rintro⟨j,e⟩ ⟨v,F,m,f⟩;simp only at v F m f⊢;have c:∀X:Option Arr,(ar.set k X)[k]?=some X:=fun X=>ax x
  match j,v,f with
  |0,v,f=>
   have z:¬((0:Nat):Int)>0:=by decide
   simp only[z,B,RN,H];refine dH () w ?_ (by omega);rw[<-f];rfl
  |j+1,v,f=>
   have z:((j+1:Nat):Int)>0:=by omega
   have D:(0:Int)<=((j+1:Nat):Int):=by omega
   have h:j+1<e.length:=by omega
   have E:ee .i64 (((j+1:Nat):Int) - 1)=(j:Int):=by rw[aF (by omega)];omega
   have y:(0:Int)<=(j:Int):=by omega
   have t:j<e.length:=by omega
   obtain⟨p,g⟩:∃p,p=e.getD (j+1) default:=⟨_,rfl⟩
   obtain⟨q,r⟩:∃q,q=e.getD j default:=⟨_,rfl⟩
   have o:=aea p q (m p (by rw[g];exact getD_mem h)) (m q (by rw[r];exact getD_mem t));rw[dW,dW]at o;rw[down,<-g,<-r]at f;simp only[z,D,h,E,y,t,c,getD_map,ae,W,b6,dW,<-g,<-r,RN,H,J,V];refine ig rfl (by kernel_rfl) rfl o ?_;have hd:=akr p q;cases n:before p q
   ·rw[n]at hd f
    rw[if_neg (by decide)]at f;have hd:¬aeS p q<0:=of_decide_eq_false hd;simp only[hd,B,RN,H];exact dH () w (by rw[f]) (by omega)
   ·rw[n]at hd f
    rw[if_pos rfl]at f;have hd:aeS p q<0:=of_decide_eq_true hd;simp only[hd,D,h,E,y,t,c,getD_map,ae,W,b6,dW,<-g,<-r,RN,H,J,V];refine rF (ds:=[dI q.a,dI q.b]) (c _) rfl (by decide) rfl rfl (by rw[getD_map h];exact aw 2) ?_;rw[XF q h,dm];have A:j<(e.set (j+1) q).length:=by rw[bh];exact t
    simp only[y,A,c,ae,W,b6,RN];refine rF (ds:=[dI p.a,dI p.b]) (c _) rfl (by decide) rfl rfl (by rw[getD_map A];exact aw 2) ?_;rw[XF p A,dm];refine rO (μ:=fun q:Nat×List Pr=>q.1) (a:=(j+1,e)) (j,(e.set (j+1) q).set j p) (dt j) rfl ⟨by simp only;omega,by simp only[bh];exact F,fun u s=> ?_,f⟩
    rcases bB s with s|rfl
    ·rcases bB s with s|rfl
     ·exact m u s
     ·rw[r];exact m _ (getD_mem t)
    ·rw[g];exact m _ (getD_mem h)
 ·simp only[aE,RN,H]
def Yi (n:Nat)(h:n<4):∃m,Pure C 192 [.int .u64 n] (pI m) []:=by
 have b1:¬((n:Int)>=4294967296):=by omega
 have b2:¬((n:Int)>=65536):=by omega
 have b3:¬((n:Int)>=256):=by omega
 have a:(0:Int)<=(n:Int):=by omega
 have w1:IntKind.u8.wrap (n:Int)=n:=by match n,h with|0,_=>rfl|1,_=>rfl|2,_=>rfl|3,_=>rfl
 refine⟨ee .i64 (0+ee .i64 ((([0,1,2,2]:List Nat).getD n 0:Nat):Int)),?_⟩;refine ah qL aI ?_
 match n,h with
 |0,_=>
  simp only[qL,aI,b1,b2,b3,a,w1,ae,RN,H];exact⟨by decide,by rfl⟩
 |1,_=>
  simp only[qL,aI,b1,b2,b3,a,w1,ae,RN,H];exact⟨by decide,by rfl⟩
 |2,_=>
  simp only[qL,aI,b1,b2,b3,a,w1,ae,RN,H];exact⟨by decide,by rfl⟩
 |3,_=>
  simp only[qL,aI,b1,b2,b3,a,w1,ae,RN,H];exact⟨by decide,by rfl⟩
def aeh (n:Nat)(h:n<4):∃m,Pure C 126 [.int .u64 n] (pI m) []:=by
 obtain⟨m,a⟩:=Yi n h;refine⟨m,?_⟩;refine ah Pz aI ?_;simp only[Pz,aI,RN,H];exact ak a rfl
def XJ (l:List Pr)(hl:l.length<=3)(h1:1<=l.length)(hb:∀p∈l,PrB p)(bs:List (Option (List PV)))(fz:List Nat)(ar:List (Option Arr))(k ver:Nat)(hk:ar[k]?=some (some ⟨2,l.map Pr.dv,ver,1⟩)):
  SC C 54 [.tsl k ver 0, .d (.func (.func 55) [] [])] ⟨bs,fz,ar⟩ (fun _ M'=>M'=⟨bs,fz,ar.set k (some ⟨2,(vC l l.length).map Pr.dv,ver,1⟩)⟩) (fun _ _=>False):=by
 have hi:=abS l (by omega) h1 hb bs fz ar k ver hk;obtain⟨m,b⟩:=aeh l.length (by omega);have w1:IntKind.u64.wrap (l.length:Int)=l.length:=ND (by omega);have c:ee .i64 ((l.length:Int) - 0)=l.length:=by rw[aF (by omega)];omega
 have a:SC C 125 [.tsl k ver 0,pI 0,pI l.length,pI m, .d (.func (.func 55) [] [])] ⟨bs,fz,ar⟩ (fun _ M'=>M'=⟨bs,fz,ar.set k (some ⟨2,(vC l l.length).map Pr.dv,ver,1⟩)⟩) (fun _ _=>False):=by
  refine aB jr dX ?_;simp only[jr,dX,RN,H,J];refine aG 1 (fun(_:Nat) (_:Unit)=>⟨[(0, .tsl k ver 0),(1,pI 0),(2,pI l.length),(3,pI m),(4, .d (.func (.func 55) [] [])),(10, .d (.bool true)),(11, .d (.bool true))],⟨bs,fz,ar⟩⟩)
   (fun i _=>i=0) 0 () (by decide) rfl rfl (fun i _ _ _=> ?_) (fun _ h=>by cases h)
  have z:(l.length:Int)<=12:=by omega
  simp only[c,z,RN,H];refine SC.kU (SC.mono hi ?_) (fun _ _ h=>h.elim);rintro p M' rfl;(try simp only[])
 refine aB kJ dX ?_;simp only[kJ,dX,hk,W,w1,cQ,RN,H,J];refine ak b ?_;(try simp only[RN,H,J,O,S,U,V]);exact a
def SI (hl:l.length<=3)(h1:1<=l.length)(hb:∀p∈l,PrB p):fF (vC l l.length)=true/\(vC l l.length).length=l.length/\VU (vC l l.length)/\∀p∈vC l l.length,p∈l:=by
 have d:=SK l l.length (aw _);have c:=Dx l l.length;refine⟨?_,c,ZB hl,d⟩;simp only[fF,inR,bN,decide_eq_true_eq,cn,ge_iff_le,Pr.ok,aT];refine⟨by omega,fun p e=> ?_⟩;obtain⟨a,b⟩:=hb p (d p e);omega
def Lets (r:Ru)(f:Fi):Prop:=r.ok=true/\r.pr=((f.ws.length / 2:Nat):Int)/\∀w∈f.ws,r.lo<=w.a/\w.b<=r.hi
def ahP {r:Ru}(h:Lets r f)(hf:Je f){t:List Int}(l:InW f.ws t):(∀p∈gTr t,PrB p)/\∀p∈gTr t,(r.lo<=p.a/\p.a<=r.hi)/\r.lo<=p.b/\p.b<=r.hi:=by
 have m:=InW.aU hf l;have n:=hf.len;have g:∀p∈gTr t,∃i j,i<f.ws.length/\j<f.ws.length/\p=⟨t.getD i default,t.getD j default⟩:=by
  intro p e;simp only[gTr,o8,av,bA]at e;obtain⟨i,hi,rfl⟩:=e;have:=l.1;exact⟨2*i,2*i+1,by omega,by omega,rfl⟩
 constructor
 ·intro p e
  obtain⟨i,j,hi,k,rfl⟩:=g p e;exact⟨m.get hi,m.get k⟩
 ·intro p e
  obtain⟨i,j,hi,k,rfl⟩:=g p e;have a:=l.2 i hi;have b:=l.2 j k;have c:=h.2.2 _ (getD_mem hi);have d:=h.2.2 _ (getD_mem k);simp only;omega
def ahN (r:Ru)(f:Fi)(hf:Je f)(h:Lets r f):Pure C 21 [f.dv,r.dv] (.d (.tup [dI (gsF f).length,dI 0])) []:=by
 have h1:=LQ f hf;have h2:=ajM r;have g:=Qs f hf;have u:=abE hf;have m:=h.1;rw[m,if_pos rfl,yI]at h2;rw[jo]at h1 g;rw[akv]at g;have z:((0:Int) !=0)=false:=rfl;refine ah Ho bn ?_;rw[jo,yI];simp only[Ho,bn,RN,H,J,V];refine ak h1 ?_;(try simp only[RN,H,J,V]);refine ak h2 ?_;simp only[z,RN,H,J,V];refine ak g ?_;simp only[W,RN,J,V];refine aG (gsF f).length (fun i (_:Unit)=>⟨[(3, .d (.aP [dI r.lo,dI r.hi,dI r.pr,dI 1, .slice false []])),(6,pI i),(22, .d (.slice (gsF f).isEmpty ((gsF f).map tDV))),(23,pI ((gsF f).length)),(24,pI i)],
   ⟨[some [.d (sF (f.ws.map Pr.dv)), .d (sF (f.ns.map Nt.dv))],some [pI r.lo,pI r.hi,pI r.pr,pI 1, .d (.slice false [])]],[1,0],[]⟩⟩)
  (fun _ _=>True) 0 () (az _) rfl trivial (fun i _ c _=> ?_) (fun _ _=> ?_)
 ·obtain⟨o,q,s⟩:=rng c (by omega)
  obtain⟨t,n⟩:∃t,t=(gsF f).getD i default:=⟨_,rfl⟩
  have b:=adl f (t:=t) (by rw[n];exact getD_mem c);have k:=hf.len;have w:=b.1;have j:=ahS t (by omega) (by omega);obtain⟨G,x⟩:=abD hf (InW.aU hf b);obtain⟨b1,b2⟩:=ahP h hf b;obtain⟨y,A,B,D⟩:=SI (l:=gTr t) (by omega) (by omega) b1;have a:=agF r (vC (gTr t) (gTr t).length) m y (by rw[A,x,h.2.1];exact cA _) B (fun p v=>by
   obtain⟨E,F⟩:=b2 p (D p v);simp[inR];omega)
  have e:∀l,(tDV l).cells=[tDV l]:=fun _=>rfl
  rw[yI]at a;simp only[o,q,c,getD_map,ae,W,<-n,e,aw,RN,H,J];refine mF rfl rfl j (by simp) ?_;simp only[PV.shift,jw,a7,cf,cP];(try simp only[RN]);refine SC.kU (SC.mono (XJ (gTr t) (by omega) (by omega) b1 _ _ _ 0 0 rfl) ?_) (fun _ _ h=>h.elim);rintro p M' rfl;refine V6 (ds:=[.agg [dI r.lo,dI r.hi,dI r.pr,dI 1, .slice false []],sF ((vC (gTr t) (gTr t).length).map Pr.dv)]) (by simp[bV,datum,Mem.row]) rfl a rfl ?_;simp only[s,RN,H,J];exact bQ 2 0 () c rfl trivial (by simp) (by simp) rfl rfl
 ·simp only[aE,RN,H,J]
def af4 (l:List Pr)(hl:l.length<=1000):Pure C 61 [sF (l.map Pr.dv)] (.d (sF ((l.flatMap fun p=>[p.a,p.b]).map ay))) []:=by
 refine bM (aB MO aI ?_);simp only[MO,aI,lX,RN,H,U];refine aG l.length (fun i (v:Nat)=>⟨[(0, .d (sF (l.map Pr.dv))),(3, .tsl 1 v 0),(4,pI i)],
   ⟨[],[],[some ⟨1,[],0,0⟩,some ⟨1,((l.take i).flatMap fun p=>[p.a,p.b]).map ay,v,0⟩]⟩⟩)
  (fun _ _=>True) 0 0 (az _) rfl trivial (fun i v c _=> ?_) (fun v _=> ?_)
 ·obtain⟨f,g,h⟩:=rng c (by omega)
  obtain⟨p,e⟩:∃p,p=l.getD i default:=⟨_,rfl⟩
  have j:((l.take i).flatMap fun p=>[p.a,p.b]).length<=2*i:=by
   have:∀l:List Pr,(l.flatMap fun p=>[p.a,p.b]).length=2*l.length:=by
    intro l;induction l with
    |nil=>rfl
    |cons x l m=>simp only[cD,ai,m,aM,be];omega
   rw[this];simp;omega
  simp only[f,g,c,getD_map,ae,W,dW,<-e,U1,h,RN,H,J,S,U,V];refine⟨by intro y k;rcases k with rfl|rfl<;>rfl,by simp,by omega,?_⟩;refine bQ 0 2 (v+1) c ?_ trivial (by simp) (by simp) rfl rfl;rw[bf c,<-e];simp[ay]
 ·simp only[aE,W,RN,H]
  simp[datum,Mem.row]
def aoy (f:Fi)(l:List Pr)(t:List Int)(hl:l.length<=1000)(j:2*l.length=f.ws.length)(o:(l.flatMap fun p=>[p.a,p.b])=t)(g:InW f.ws t):Pure C 23 [f.dv,sF (l.map Pr.dv)] (.d (.bool true)) []:=by
 have h1:=af4 l hl;rw[o]at h1;have q:=g.1;have w1:ee .i64 (2*(l.length:Int))=((f.ws.length:Nat):Int):=by rw[aF (by omega)];omega
 have z:(((f.ws.length:Nat):Int) !=((f.ws.length:Nat):Int))=false:=by simp
 refine ah SS aH ?_;rw[jo];simp only[SS,aH,W,w1,z,RN,H,J,V];refine ak h1 ?_;(try simp only[]);refine aG t.length (fun i (_:Unit)=>⟨[(2, .d (.aP [sF (f.ws.map Pr.dv),sF (f.ns.map Nt.dv)])),(5, .d (sF (t.map ay))),(6,pI i)],⟨[some [.d (sF (f.ws.map Pr.dv)), .d (sF (f.ns.map Nt.dv))]],[0],[]⟩⟩)
  (fun _ _=>True) 0 () (az _) rfl trivial (fun i _ h _=> ?_) (fun _ _=> ?_)
 ·obtain⟨k,m,n⟩:=rng h (by omega)
  have c:i<f.ws.length:=by omega
  obtain⟨r,s⟩:=g.2 i c;have e:=Xr (t.getD i default) (f.ws.getD i default).a (f.ws.getD i default).b;rw[show inR (t.getD i default) (f.ws.getD i default).a (f.ws.getD i default).b=true by simp only[inR,bN,decide_eq_true_eq];omega]at e;simp only[k,m,h,c,getD_map,ae,W,dW,aW,RN,H,J,V];refine ak e ?_;simp only[n,RN,H];exact dh () h rfl trivial (by simp) (by simp) rfl rfl
 ·simp only[aE,W,RN,H]
def aiY (l:List Pr)(h:fF l=true):Pure C 27 [sF (l.map Pr.dv)] (.d (.bool true)) []:=by
 obtain⟨h1,h2,p⟩:=lD h;have k:∀n,4<=n->n<=60->Pure C 47 [dI n] (.d (.bool true)) []:=by
  intro n a b;have:=TB n
  rwa [Ir.2 ⟨a,b⟩]at this
 refine ah MN aI ?_;simp only[MN,aI,RN,H];refine aG l.length (fun i (_:Unit)=>⟨[(0, .d (sF (l.map Pr.dv))),(3,pI i)],⟨[],[],[]⟩⟩)
  (fun _ _=>True) 0 () (az _) rfl trivial (fun i _ c _=> ?_) (fun _ _=> ?_)
 ·obtain⟨m,j,o⟩:=rng c (by omega)
  obtain⟨f,g⟩:=p _ (getD_mem c);simp only[m,j,c,getD_map,ae,W,dW,RN,H,J,V];refine ak (k _ f.1 f.2) ?_;simp only[j,c,getD_map,ae,W,dW,RN,H,J,V];refine ak (k _ g.1 g.2) ?_;simp only[o,RN,H];exact dh () c rfl trivial (by simp) (by simp) rfl rfl
 ·have e:=acF (l.length:Int) 1 3
  rw[show inR (l.length:Int) 1 3=true by simp[inR];omega]at e;simp only[aE,W,RN,H];refine ak e ?_;(try simp only[])
def acA (l:List Pr)(hl:l.length<=1000)(h1:1<=l.length):Pure C 26 [sF (l.map Pr.dv)] (.d (sF ((vC l l.length).map Pr.dv))) []:=by
 refine bM (aB Hw aI ?_);simp only[Hw,aI,lX,RN,H,U];refine⟨by intro y E;obtain⟨p,_,rfl⟩:=av.1 E;rfl,by intro h;have:=congrArg db h;simp at this;rw[this]at h1;simp at h1,fun _ h=>h.elim,by simp;omega,?_⟩;refine aG l.length (fun i (_:Unit)=>⟨[(3, .tsl 1 0 0),(4,pI i)],⟨[],[],[some ⟨2,[],0,0⟩,some ⟨2,(vC l i).map Pr.dv,0,1⟩]⟩⟩)
  (fun _ _=>True) 0 () (az _) rfl trivial (fun i _ o _=> ?_) (fun _ _=> ?_)
 ·obtain⟨D,F,w⟩:=rng o (by omega)
  have f:=Dx l i;simp only[W,f,cQ,D,RN,H];refine kN (fun(q:Nat×List Pr)=>⟨[(3, .tsl 1 0 0),(4,pI i),(5,pI q.1)],⟨[],[],[some ⟨2,[],0,0⟩,some ⟨2,q.2.map Pr.dv,0,1⟩]⟩⟩)
   (fun q=>q.1<=i/\q.2.length=l.length/\down q.1 q.2=vC l (i+1)) (fun q=>q.1) (i,vC l i) rfl ⟨aw _,f,rfl⟩ ?_
  rintro⟨j,c⟩ ⟨n,B,e⟩;simp only at n B e⊢
  match j,n,e with
  |0,n,e=>
   have z:¬((0:Nat):Int)>0:=by decide
   simp only[z,w,RN,H];exact dh () o (by rw[<-e];rfl) trivial (by simp) (by simp) rfl rfl
  |j+1,n,e=>
   have z:((j+1:Nat):Int)>0:=by omega
   have x:(0:Int)<=((j+1:Nat):Int):=by omega
   have m:j+1<c.length:=by omega
   have A:ee .i64 (((j+1:Nat):Int) - 1)=(j:Int):=by rw[aF (by omega)];omega
   have t:(0:Int)<=(j:Int):=by omega
   have u:j<c.length:=by omega
   obtain⟨p,r⟩:∃p,p=c.getD (j+1) default:=⟨_,rfl⟩
   obtain⟨q,s⟩:∃q,q=c.getD j default:=⟨_,rfl⟩
   have k:=afZ p q;rw[dW,dW]at k;rw[down,<-r,<-s]at e;simp only[z,x,m,A,t,u,getD_map,ae,W,b6,dW,<-r,<-s,RN,H,J,V];refine ak k ?_;cases g:before p q
   ·rw[g]at e
    rw[if_neg (by decide)]at e;simp only[w,RN,H];exact dh () o (by rw[<-e];rfl) trivial (by simp) (by simp) rfl rfl
   ·rw[g]at e
    rw[if_pos rfl]at e;simp only[x,m,A,t,u,getD_map,ae,W,b6,dW,<-r,<-s,RN,H,J,V];refine rF (ds:=[dI q.a,dI q.b]) rfl rfl (by decide) rfl rfl (by rw[getD_map m];exact aw 2) ?_;rw[XF q m];have v:j<(c.set (j+1) q).length:=by rw[bh];exact u
    simp only[t,v,ae,W,b6,RN];refine rF (ds:=[dI p.a,dI p.b]) rfl rfl (by decide) rfl rfl (by rw[getD_map v];exact aw 2) ?_;rw[XF p v];exact rO (μ:=fun q:Nat×List Pr=>q.1) (a:=(j+1,c)) (j,(c.set (j+1) q).set j p) (dt j) rfl ⟨by simp only;omega,by simp only[bh];exact B,e⟩
 ·have f:=Dx l l.length
  simp only[aE,W,f,cQ,RN,H];simp[datum,Mem.row]
def ahO {t:List Int}(h:t.length=2\/t.length=4\/t.length=6):(gTr t).flatMap (fun p=>[p.a,p.b])=t:=by
 rcases t with _|⟨a,_|⟨b,_|⟨c,_|⟨d,_|⟨e,_|⟨g,_|⟨u,t⟩⟩⟩⟩⟩⟩⟩
 all_goals first
  |(simp[gTr,o8,bR];done)
  |(exfalso;simp only[aM,be]at h;omega)
structure RgOk (ws:List Pr) (i:Nat) (many lo hi:Int):Prop where
 m1:1<=many/\many<=((6 ^ i:Nat):Int)
 l1:4<=lo/\lo<=60
 h1:4<=hi/\hi<=60
 w1:∀w∈ws.take i,lo<=w.a/\w.b<=hi
def amu (f:Fi)(x:Fr):Pure C 5 [f.dv,x.dv] (.d (.bool true)) []:=by
 have g:=alr;refine ah iV aH ?_
 by_cases h8:f.ws.length<=8
 case neg=>
  have z:((f.ws.length:Nat):Int)>8:=by omega
  simp only[iV,aH,jo,aS,W,z,RN,H,J,V];exact ak g rfl
 have z1:¬((f.ws.length:Nat):Int)>8:=by omega
 by_cases R:f.ns.length<=11
 case neg=>
  have z:((f.ns.length:Nat):Int)>11:=by omega
  simp only[iV,aH,jo,aS,W,z1,z,RN,H,J,V];exact ak g rfl
 have z2:¬((f.ns.length:Nat):Int)>11:=by omega
 have j:=alS f h8 R;rw[jo]at j;simp only[iV,aH,jo,aS,W,z1,z2,RN,H,J,V];refine ak j ?_;cases T:yt f
 ·(try simp only[RN,H,J])
  exact ak g rfl
 have k:=akQ T;have E:=Xq x;rw[aS]at E;(try simp only[RN,H,J,V]);refine ak E ?_;cases v:x.ok
 ·(try simp only[RN,H,J])
  exact ak g rfl
 have o:=k.len;have ab:((f.ws.length:Nat):Int).tdiv 2=((f.ws.length / 2:Nat):Int):=(Int.ofNat_tdiv _ 2).symm;have X:=WG (show f.ws.length<=1000000 by omega);have Y:(2:Int)≠0:=by decide
 simp only[W,X,Y,RN,H,J,S,V];refine aG f.ws.length (fun i (q:Int×Int×Int)=>⟨[(2, .d (.aP [sF (f.ws.map Pr.dv),sF (f.ns.map Nt.dv)])),(3, .d (.aP [dI x.n,dI x.d])),(5,pI q.1),(6, .ptr 2 0),(7,pI i)],
   ⟨[some [.d (sF (f.ws.map Pr.dv)), .d (sF (f.ns.map Nt.dv))],some [pI x.n,pI x.d],some [pI q.2.1,pI q.2.2, .d (dI ((f.ws.length / 2:Nat):Int)),pI 1, .d (.slice true [])]],[1,0],[]⟩⟩)
  (fun i q=>RgOk f.ws i q.1 q.2.1 q.2.2) 0 (1,60,4) (az _) rfl ⟨by simp,by simp,by simp,fun w h=>by simp at h⟩ (fun i q B G=> ?_) (fun q G=> ?_)
 ·obtain⟨c,lo,hi⟩:=q
  simp only at G;obtain⟨Z,q2,q3,I⟩:=G;obtain⟨g2,g3,g6⟩:=rng B (by omega);obtain⟨w,A⟩:∃w,w=f.ws.getD i default:=⟨_,rfl⟩
  have ai:=Fg (k.w w (by rw[A];exact getD_mem B));have h6:(6:Nat) ^ i<=46656:=by
   have:(6:Nat) ^ i<=6 ^ 6:=cq (by decide) (by omega);have e:(6:Nat) ^ 6=46656:=by decide
   omega
  have m1:=a8 Z.2 (show w.b - w.a+1<=6 by omega) (by omega) (by omega);have m2:=a8 Z.1 (show(1:Int)<=w.b - w.a+1 by omega) (by omega) (by omega);have w1:ee .i64 (w.b - w.a)=w.b - w.a:=aF (by omega);have w2:ee .i64 (w.b - w.a+1)=w.b - w.a+1:=aF (by omega);have w3:ee .i64 (c*(w.b - w.a+1))=c*(w.b - w.a+1):=aF (by omega);simp only[g2,g3,B,getD_map,ae,W,dW,<-A,w1,w2,w3,g6,RN,H,J,S,U,V];refine bQ 3 0 (c*(w.b - w.a+1),if w.a<lo then w.a else lo,if w.b>hi then w.b else hi) B rfl ⟨⟨by omega,by rw[d7,cR];exact m1⟩,by simp only;split<;>omega,by simp only;split<;>omega,fun u P=> ?_⟩ (by simp) (by simp) rfl rfl;rw[bf B,cr,aL,<-A]at P;simp only
  rcases P with P|rfl
  ·have:=I u P
   split<;>split<;>omega
  ·split<;>split<;>omega
 ·obtain⟨c,lo,hi⟩:=q
  simp only at G;obtain⟨Z,q2,q3,I⟩:=G;rw[bO]at I
  by_cases amD:c>1000
  ·simp only[aE,W,amD,RN,H,J,V]
   exact ak g rfl
  obtain⟨r,N⟩:∃r:Ru,r=⟨lo,hi,((f.ws.length / 2:Nat):Int)⟩:=⟨_,rfl⟩
  have afs:r.ok=true:=by
   obtain⟨w,A⟩:=List.exists_mem_of_ne_nil f.ws (by intro e;rw[e]at o;simp at o);have h1:=I w A;have h2:=Fg (k.w w A);rw[N];simp only[Ru.ok,aT,inR,bN,decide_eq_true_eq,ge_iff_le];omega
  have L:Lets r f:=⟨afs,by rw[N],by rw[N];exact I⟩
  have Q:=ad6 f k;have K:=ahN r f k L;have s:r.dv= .agg [dI lo,dI hi,dI ((f.ws.length / 2:Nat):Int),dI 1, .slice false []]:=by rw[yI,N]
  rw[jo]at Q K;rw[s]at K;simp only[aE,W,amD,RN,H,J,V];refine ak Q ?_;(try simp only[RN,J,V]);refine ak K ?_;have y0:((0:Int) !=0)=false:=rfl;have y1:(((gsF f).length:Int) !=((gsF f).length:Int))=false:=by simp
  have y2:¬(((gsF f).length:Int)<0):=by omega
  by_cases D:gsF f=[]
  ·have y:=abB f k x v D
   rw[jo,aS]at y;have y3:((((gsF f).length:Nat):Int)==0)=true:=by rw[D];rfl
   have y4:((7:Int)==7)=true:=rfl;(try simp only[RN,J]);refine ak y ?_;simp only[y0,y1,y2,y3,y4,RN,H,J];refine ak g ?_;(try simp only[])
  have y:=abC f k x v D;rw[jo,aS]at y;have y3:((((gsF f).length:Nat):Int)==0)=false:=by
   have:(gsF f).length≠0:=fun e=>D (bu.1 e)
   simp;omega
  obtain⟨t,ht,hg⟩:=aiy f x D;have m:=adl f ht;have ac:=m.1;obtain⟨o1,o2⟩:=abD k (InW.aU k m);obtain⟨b1,b2⟩:=ahP L k m;obtain⟨p1,p2,p3,p4⟩:=SI (l:=gTr t) (by omega) (by omega) b1;have c4:=aoy f (gTr t) t (by omega) (by omega) (ahO (by omega)) m;have c5:=acP r afs x v;have c6:=acA (gTr t) (by omega) (by omega);have c7:=agF r (vC (gTr t) (gTr t).length) afs p1 (by rw[p2,o2,L.2.1];exact cA _) p3 (fun p M=>by
   obtain⟨Q,K⟩:=b2 p (p4 p M);simp[inR];omega)
  have c8:=aiY (oz r x) (Pv afs v);have c9:=X0 x (oz r x) (gTr t) v (Pv afs v) o1;have F:=Zp afs v (t:=gTr t) (by omega) (by rw[o2,L.2.1];exact cA _) (fun p M=>⟨qG.2 (b2 p M).1,qG.2 (b2 p M).2⟩);have y5:Bl (Vh x (oz r x) (gTr t)) 0<=0:=(ana _).2 F;have y6:((0:Int)==0)=true:=rfl;rw[jo]at c4;rw[s,aS]at c5;rw[s]at c7;rw[aS]at c9;rw[hg]at y;(try simp only[RN,J]);refine ak y ?_;simp only[y0,y1,y2,y3,RN,H,J,V];refine ak c4 ?_;(try simp only[RN,H,J,V]);refine ak c5 ?_;(try simp only[RN,J,U,V]);refine ak c6 ?_;(try simp only[RN,H,J,O,S,U,V]);refine ak c7 ?_;simp only[y0,RN,H,J];refine ak c8 ?_;(try simp only[RN,H,J,V]);refine ak c9 ?_;simp only[y5,y6,RN,H,J];refine ak g ?_;(try simp only[])
end Go.Tel
