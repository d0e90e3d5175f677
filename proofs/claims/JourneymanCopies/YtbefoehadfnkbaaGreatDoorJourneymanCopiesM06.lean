/-
  Part 6 of a law of desks.
  Conditions: none.
-/
import Derived.Test.YtbefoehadfnkbaaGreatDoorJourneymanCopiesM04
import Derived.Test.YtbefoehadfnkbaaGreatDoorJourneymanCopiesM05
import Derived.Shelf.Lays2
import Derived.Shelf.RegionOpenPlain
import Derived.Deep.LoopGhost
import Derived.Deep.RegionLaw
import Derived.Lib.Walk
import Derived.Sort.WalkB12
import Derived.Lib.SliceRun
import Derived.Lib.SlicesDelete
import Derived.Ground.NamesProg
import Derived.Shelf.Strings.Split
import Derived.Shelf.Strings.OnBuilder
import Derived.Shelf.Strconv.Itoa3
import Derived.Shelf.Strings.Cut
import Derived.Shelf.Sort.Plain
import Derived.Ground.Names2Prog
import Derived.Shelf.Small.Strs
import Derived.Test.YtbefoehadfnkbaaGreatDoorChecked
set_option linter.all false
set_option maxRecDepth 10000
set_option maxHeartbeats 4000000
open Nat renaming reduceBEq->F,reduceAdd->H,reduceSub->I,reduceEqDiff->J,reduceLT->N,reduceLeDiff->S,le_trans->ah,lt_irrefl->ai,lt_of_lt_of_le->ak,le_refl->aq,add_assoc->av,zero_le->aS,mul_one->aW,sub_zero->bz,add_zero->bF
open List renaming getElem?_eq_some_iff->U,length_append->V,getElem?_append_left->Y,length_map->ab,getElem?_set_ne->ae,mem_singleton->aj,mem_append->am,append_assoc->ao,length_nil->au,length_cons->aw,getElem?_map->az,mem_cons_of_mem->aA,mem_map->aB,drop_zero->aC,getD_eq_getElem?_getD->aD,all_eq_true->aE,map_cons->aF,length_set->aG,mem_cons_self->aI,getElem?_set_self->aL,all_flatMap->aN,mem_cons->aR,getElem?_append_right->aT,getElem?_drop->aU,ext_getElem?->aV,all_cons->aZ,getElem?_eq_getElem->a7,all_map->bd,all_nil->be,append_nil->bf,map_append->bg,getElem?_eq_none->bi,length_filter_le->bj,set_append_right->bk,length->bn,filter_append->bp,getElem?_take->bq,getElem?_set->bt,length_range->bu,map_nil->bv,map_set->bw,cons_append->bA,drop_length->bB,not_mem_nil->bC,mem_filter->bD,replicate->bE,map->bG,drop->bH,take->bI
open Int renaming toNat_natCast->an,lt_irrefl->bo
open Bool renaming and_eq_true->ap,false_and->ax,true_and->aP,and_self->aX,and_true->aY,and_false->bl
open Option renaming map_some->ay,map_none->aH,isSome_none->aJ,isSome_some->aK,getD_some->aO,getD_none->bc,map->br
open Array renaming getElem?_toList->aM,getElem?_modify->bh
open Iff renaming rfl->aQ
open And renaming intro->a8
open Go.IntKind renaming wrap->bJ
namespace Go.Tel
open Go.Am
def slR (W:Bool)(c:PV)(xs:List DV)(ar:List (Option Arr)):Prop:=
 (c= .d (.slice true [])/\xs=[])\/∃k ver st,c= .tsl k ver 0/\ar[k]?=some (some ⟨1,xs,ver,st⟩)/\st≠2/\(W=true->st=1\/xs=[])
def kOf:PV->Option Nat| .tsl k _ _=>some k| _=>none
def apK (s:Su)(a mb:Nat)(cst cse:PV)(aqy:Int):List PV:=[.tsl a 0 0, .tsl (a+1) 0 0, .tsl (a+2) 0 0,pI s.lim,pI s.dvd.aoG, .tsl (a+4) 0 0,pI s.cal.ep, .tsl (a+5) 0 0,pI s.apM.n,pI s.apM.d,pI s.apM.ad, .tsl (a+3) 0 0,pI s.year,pI s.ao2,pI s.hours,pI s.aqJ,pI s.pct, .d (sF (s.days.map awJ)),cst, .mref mb,pI aqy,cse]
structure ape (s:Su) (a b mb:Nat) (cst cse:PV) (t:Sp) (M:Mem):Prop where
 box:M.boxes[b]?=some (some (apK s a mb cst cse t.aqy))
 map:M.boxes[mb]?=some (some [.apZ (opD t.op)])
 r0:M.anK[a]?=some (some ⟨3,t.pc.links.map Lk.dv,0,1⟩)
 r1:M.anK[a+1]?=some (some ⟨1,t.pc.hands.map anF,0,0⟩)
 r2:M.anK[a+2]?=some (some ⟨2,t.tg.map Fr.dv,0,1⟩)
 r3:M.anK[a+3]?=some (some ⟨4,s.fs.map Fs.dv,0,0⟩)
 r4:M.anK[a+4]?=some (some ⟨1,s.dvd.cir.map anF,0,0⟩)
 r5:M.anK[a+5]?=some (some ⟨1,s.cal.cy.map anF,0,0⟩)
 stk:slR true cst (t.aoN.map anF) M.anK
 set:slR false cse (t.sets.map anF) M.anK
 kst:∀k,kOf cst=some k->a+6<=k
 kse:∀k,kOf cse=some k->a+6<=k
 dif:∀k,kOf cst=some k->kOf cse≠some k
 nb:b∉M.fz
 nm:mb∉M.fz
 bm:b≠mb
 fzb:∀i∈M.fz,i<M.boxes.length
structure FrS (a b mb:Nat) (M M':Mem):Prop where
 len:M.boxes.length<=M'.boxes.length
 aoc:M.anK.length<=M'.anK.length
 box:∀i,i<M.boxes.length->i≠b->i≠mb->M'.boxes[i]?=M.boxes[i]?
 fz:∀i,i<M.boxes.length->(i∈M'.fz↔i∈M.fz)
 row:∀k,k<a->M'.anK[k]?=M.anK[k]?
 fzb:FzB M->FzB M'
def FrS.trans {a b mb:Nat}{M M' M'':Mem}(h:FrS a b mb M M')(h':FrS a b mb M' M''):FrS a b mb M M'':=
 ⟨ah h.len h'.len,ah h.aoc h'.aoc,fun i c h1 h2=>(h'.box i (ak c h.len) h1 h2).trans (h.box i c h1 h2),fun i c=>(h'.fz i (ak c h.len)).trans (h.fz i c),fun k d=>(h'.row k d).trans (h.row k d),fun e=>h'.fzb (h.fzb e)⟩
def aQ5:Prop:=∀(k ver i:Nat) (zs:List Int) (bs:List (Option (List PV))) (fz:List Nat) (ar:List (Option Arr)) (K:PV->Mem->Prop) (KP:DV->Mem->Prop),ar[k]?=some (some ⟨1,zs.map anF,ver,1⟩)->i<zs.length->
 K (.tsl k (ver+1) 0) ⟨bs,fz,ar.set k (some ⟨1,(zs.take i++zs.drop (i+1)).map anF,ver+1,1⟩)⟩->SC C 271 [.tsl k ver 0,pI i,pI (i+1:Nat)] ⟨bs,fz,ar⟩ K KP
def aKx (v:Int):∀(xs:List Int) (i:Nat),(idx v xs i= -1/\v∉xs)\/∃n,idx v xs i=((i+n:Nat):Int)/\n<xs.length/\xs.take n++xs.drop (n+1)=xs.erase v/\v∈xs
 | [],i=> .inl ⟨rfl,by simp⟩
 |x::xs,i=>by
  rw[idx]
  by_cases h:v=x
  ·subst h
   exact .inr ⟨0,by simp,by simp,by simp,by simp⟩
  ·rcases aKx v xs (i+1)with⟨h1,h2⟩|⟨n,h1,h2,a,b⟩
   ·refine .inl ⟨by simp[h,h1],by simp[h,h2]⟩
   ·refine .inr ⟨n+1,by simp[h,h1];omega,by simp;omega,?_,by simp[b]⟩
    have c:¬(x==v)=true:=by simp;exact fun e=>h e.symm
    rw[List.erase_cons_tail c,<-a];simp
variable{W:Bool}{c:PV}{xs:List DV}{bs:List (Option (List PV))}{fz:List Nat}{ar:List (Option Arr)}
def aQM (h:slR W c xs ar):∃ex,datum ⟨bs,fz,ar⟩ c=some (.slice ex xs):=by
 rcases h with⟨rfl,rfl⟩|⟨k,ver,st,rfl,h,_⟩
 ·exact⟨true,rfl⟩
 ·exact⟨false,by simp[datum,Mem.row,h]⟩
def az1 (h:slR W c xs ar):PV.one c=true/\PV.cells c=[c]/\c.asO=false:=by
 rcases h with⟨rfl,rfl⟩|⟨k,ver,st,rfl,_⟩<;>exact⟨rfl,rfl,rfl⟩
variable{ar':List (Option Arr)}
def atd (h:slR W c xs ar)(hk:∀k A,kOf c=some k->ar[k]?=some (some A)->ar'[k]?=some (some A)):slR W c xs ar':=by
 rcases h with⟨rfl,rfl⟩|⟨k,ver,st,rfl,h1,h2⟩
 ·exact .inl ⟨rfl,rfl⟩
 ·exact .inr ⟨k,ver,st,rfl,hk _ _ rfl h1,h2⟩
def ape.aGa {s:Su}{a b mb:Nat}{cst cse:PV}{t:Sp}(h:ape s a b mb cst cse t ⟨bs,fz,ar⟩){k ver st:Nat}{xs:List Int}(hk:a+6<=k)(hd:kOf cse≠some k)
  (h1:ar'[k]?=some (some ⟨1,xs.map anF,ver,st⟩))(h2:∀j,j≠k->j<ar.length->ar'[j]?=ar[j]?)(hl:ar.length<=ar'.length)(f:st≠2/\(st=1\/xs=[])):
  ape s a b mb (.tsl k ver 0) cse {t with aoN:=xs} ⟨bs.set b (some (apK s a mb (.tsl k ver 0) cse t.aqy)),fz,ar'⟩/\FrS a b mb ⟨bs,fz,ar⟩ ⟨bs.set b (some (apK s a mb (.tsl k ver 0) cse t.aqy)),fz,ar'⟩:=by
 have l:b<bs.length:=(U.1 h.box).1;have d:∀(j:Nat) (A:Arr),j≠k->ar[j]?=some (some A)->ar'[j]?=some (some A):=fun j A c g=>by
  rw[h2 j c (U.1 g).1];exact g
 constructor
 ·exact
  {box:=by simp[l]
   map:=by
    have:=h.map;have o:=h.bm;simp only at this⊢;rw[ae o];exact this
   r0:=d _ _ (by omega) h.r0
   r1:=d _ _ (by omega) h.r1
   r2:=d _ _ (by omega) h.r2
   r3:=d _ _ (by omega) h.r3
   r4:=d _ _ (by omega) h.r4
   r5:=d _ _ (by omega) h.r5
   stk:= .inr ⟨k,ver,st,rfl,h1,f.1,fun _=>f.2.imp id fun e=>by simp[e]⟩
   set:=atd h.set fun j A c g=>d j A (fun e=>hd (e▸c)) g
   kst:=fun j c=>by cases c;exact hk
   kse:=h.kse
   dif:=fun j c=>by cases c;exact hd
   nb:=h.nb
   nm:=h.nm
   bm:=h.bm
   fzb:=fun i m=>by simpa using h.fzb i m}
 ·exact
  {len:=by simp
   fzb:=fun q i m=>by have:=q i m;simpa using this
   aoc:=hl
   box:=fun i _ p _=>by simp only;rw[ae (Ne.symm p)]
   fz:=fun _ _=>aQ
   row:=fun j c=>by
    by_cases n:j<ar.length
    ·exact h2 j (by omega) n
    ·exact absurd (U.1 h.r0).1 (by simp only;omega)}
def aOS (f:aQ5){s:Su}{a b mb:Nat}{cst cse:PV}{t:Sp}{M:Mem}(h:ape s a b mb cst cse t M)(v:Int)(hl:t.aoN.length<=1000000):
  SC C 209 [.ptr b 0,pI v] M (fun p M'=>(v∉t.aoN/\p= .d (.bool false)/\M'=M)\/(v∈t.aoN/\p= .d (.bool true)/\∃atH,ape s a b mb atH cse {t with aoN:=t.aoN.erase v} M'/\FrS a b mb M M'/\kOf atH=kOf cst/\(∃k ver,atH= .tsl k ver 0/\M'.anK[k]?=some (some ⟨1,(t.aoN.erase v).map anF,ver,1⟩))/\∀k,kOf cst≠some k->M'.anK[k]?=M.anK[k]?)) (fun _ _=>False):=by
 obtain⟨bs,fz,ar⟩:=M;have c:=h.box;rw[apK]at c;have i:=h.nb;simp only at c i;obtain⟨D,E,G⟩:=az1 h.stk;obtain⟨ex,q⟩:=aQM (bs:=bs) (fz:=fz) h.stk;refine anJ ata anO ?_;simp only[ata,anO,c,RN,F,H,S];refine ap8 (asU q) rfl (aFZ t.aoN v hl) rfl ?_
 rcases aKx v t.aoN 0 with⟨h1,h2⟩|⟨n,h1,h2,z,o⟩
 ·have w:idx v t.aoN 0<0:=by omega
  simp only[w,RN,F];exact .inl h2
 ·have w:¬(n:Int)<0:=by omega
  have e1:bJ .i64 ((n:Int)+1)=((n+1:Nat):Int):=by rw[anI (by omega)];omega
  have e2:idx v t.aoN 0=(n:Int):=by omega
  have l:t.aoN≠[]:=fun e=>by rw[e]at o;cases o
  rcases h.stk with⟨_,m⟩|⟨k,ver,st,rfl,m,B,A⟩
  ·exact absurd (by simpa using m) l
  ·have u:st=1:=(A rfl).resolve_right (by simpa using l)
   subst u;simp only[w,c,e1,e2,RN,F,H,S];refine f k ver n t.aoN _ _ _ _ _ m h2 ?_;simp only[c,i,aor,aox,RN,H,S];rw[z];have g:k<ar.length:=(U.1 m).1;obtain⟨x,y⟩:=h.aGa (k:=k) (ver:=ver+1) (st:=1) (xs:=t.aoN.erase v) (ar':=ar.set k (some ⟨1,(t.aoN.erase v).map anF,ver+1,1⟩)) (h.kst k rfl) (h.dif k rfl) (by simp[g]) (fun j r _=>ae (Ne.symm r)) (by simp) ⟨by decide, .inl rfl⟩;exact .inr ⟨o,_,x,y,rfl,⟨k,_,rfl,by simp[g]⟩,fun j r=>ae (fun e=>r (by rw[e];rfl))⟩
section
variable {C:Ctx}{base:Nat}{KP:DV->Mem->Prop}{K:PV->Mem->Prop}{M:Mem}
def aFG {t:TypeId}{x:DV}:anG C base .panic [.d (.iface t x)] M K KP=KP (.iface t x) M:=by
 have:=ay3 (M:=M) (ds:=[DV.iface t x]);simp only[aF,bv]at this;simp only[anG,datum,this]
def ao3 {f:FuncId}{fs cs:List DV}{args:List PV}:anG C base .aqg (.d (.func (.func f) fs cs)::args) M K KP=(callable C.P f=true/\SC C f (fs.map .d++args++cs.map .d) M K KP):=px
end
def aAN (d:DV):Prop:=∃y,d= .iface T.apV (.agg [y])/\PV.cells (.d y)=[.d y]/\y.one=true
variable{x:DV}{M:Mem}{K:PV->Mem->Prop}{KP:DV->Mem->Prop}
def ayp (h:K (.d (.tup [])) M):SC C 207 [.d (.bool true), .d (.anY [x])] M K KP:=by
 obtain⟨bs,fz,ar⟩:=M;refine anJ ap2 apc ?_;simp only[ap2,apc,RN,F,H];exact h
def avl (hx:PV.cells (.d x)=[.d x]/\x.one=true)(h:KP (.iface T.apV (.agg [x])) M):SC C 207 [.d (.bool false), .d (.anY [x])] M K KP:=by
 obtain⟨bs,fz,ar⟩:=M;refine anJ ap2 apc ?_;simp only[ap2,apc,hx.1,aEb,aFG,RN,F,H,S];exact h
def ao9:List (Int×Fr)->Int->Option Fr
 | [],_=>none
 |p::l,h=>if h=p.1 then some p.2 else ao9 l h
def axk:List (Int×Fr)->Int->List (Int×Fr)
 | [],_=>[]
 |p::l,h=>if h=p.1 then l else p::axk l h
def azd (p:Int×Fr)(l:List (Int×Fr)):opD (p::l)=(dI p.1,p.2.dv)::opD l:=rfl
def aSv (h n:Int):apO [] (dI h) (dI n)=some (h==n):=by simp[apO]
def az2 (l:List (Int×Fr))(h:Int):asP [] (opD l) (dI h)=some ((ao9 l h).map Fr.dv):=by
 induction l with
 |nil=>rfl
 |cons p l b=>
  rw[azd,asP,aSv,ao9]
  by_cases a:h=p.1
  ·have b1:(h==p.1)=true:=by simp[a]
   rw[b1,if_pos a];rfl
  ·have b1:(h==p.1)=false:=beq_false_of_ne a
   rw[b1,if_neg a];exact b
def aYp (l:List (Int×Fr))(h:Int)(f:Fr)(a:ao9 l h=none):ayw [] (opD l) (dI h) f.dv=some (opD (l++ [(h,f)])):=by
 induction l with
 |nil=>rfl
 |cons p l c=>
  rw[ao9]at a
  by_cases b:h=p.1
  ·rw[if_pos b]at a;cases a
  ·have b1:(h==p.1)=false:=beq_false_of_ne b
   rw[if_neg b]at a;rw[azd,ayw,aSv,b1];simp only[c a,ay,bA,azd]
def aYo (l:List (Int×Fr))(h:Int):ayv [] (opD l) (dI h)=some (opD (axk l h)):=by
 induction l with
 |nil=>rfl
 |cons p l b=>
  rw[azd,ayv,aSv,axk]
  by_cases a:h=p.1
  ·have b1:(h==p.1)=true:=by simp[a]
   rw[b1,if_pos a]
  ·have b1:(h==p.1)=false:=beq_false_of_ne a
   rw[b1,if_neg a];simp only[b,ay,azd]
def ash (aoN a:List Int)(b new:Int):Option (List Int×List Int):=if b=new then some (aoN,a)else if new∈aoN then some (aoN.erase new,a++ [b])else none
def doS (s:Su)(t:Sp):De->Option Sp
 | .cut n=>if(s.dvd.cuts n).2=0/\t.aoN.length<8 then some {t with aoN:=t.aoN++ [n]}else none
 | .change c=>
  if t.pc.ayS c&&((t.pc.aq1 (t.pc.changed c)).all fun h=>(ao9 t.op h).isSome)then
   let e:=(t.pc.links.getD c.link.toNat default).pr
   match ash t.aoN [] e.a c.pr.a with
   |none=>none
   |some (s1,p1)=>match ash s1 p1 e.b c.pr.b with
    |none=>none
    |some (i,g)=>some {t with pc:=t.pc.changed c,aoN:=i++g}
  else none
 | .order h f=>if(ao9 t.op h).isSome then none else some {t with op:=t.op++ [(h,f)]}
 | .serve h aqy=>match ao9 t.op h with
  |none=>none
  |some f=>if aAj s t h f 100&&decide (aqy>=aya s t h.toNat)then some {t with op:=axk t.op h,tg:=t.tg.set h.toNat f,aqy:=t.aqy+aqy}else none
 | .set d=>if(s.days.getD (d - 1).toNat default).2&&(t.sets.isEmpty||decide (d>t.sets.getD (t.sets.length - 1) default))then some {t with sets:=t.sets++ [d]}else none
 | .strike _=>some t
def aLL {s:Su}{a b mb:Nat}{cst cse:PV}{t:Sp}(h:ape s a b mb cst cse t M):∃e1 e2,datum M (.ptr b 0)=some (.anY [sF (t.pc.links.map Lk.dv),sF (t.pc.hands.map anF),sF (t.tg.map Fr.dv),dI s.lim,dI s.dvd.aoG,sF (s.dvd.cir.map anF),dI s.cal.ep,sF (s.cal.cy.map anF),dI s.apM.n,dI s.apM.d,dI s.apM.ad,sF (s.fs.map Fs.dv),dI s.year,dI s.ao2,dI s.hours,dI s.aqJ,dI s.pct,
 sF (s.days.map awJ), .slice e1 (t.aoN.map anF), .map (some (opD t.op)),dI t.aqy, .slice e2 (t.sets.map anF)]):=by
 have h1:=h.box;have h2:=h.map;rw[apK]at h1
 rcases h.stk with⟨rfl,e1⟩|⟨k,ver,st,rfl,e1,_⟩<;>rcases h.set with⟨rfl,e2⟩|⟨e,a1l,c,rfl,e2,_⟩
 ·exact⟨true,true,by simp[datum,aoi,aoO,Mem.box,Mem.row,h1,h2,h.r0,h.r1,h.r2,h.r3,h.r4,h.r5,e1,e2]⟩
 ·exact⟨true,false,by simp[datum,aoi,aoO,Mem.box,Mem.row,h1,h2,h.r0,h.r1,h.r2,h.r3,h.r4,h.r5,e1,e2]⟩
 ·exact⟨false,true,by simp[datum,aoi,aoO,Mem.box,Mem.row,h1,h2,h.r0,h.r1,h.r2,h.r3,h.r4,h.r5,e1,e2]⟩
 ·exact⟨false,false,by simp[datum,aoi,aoO,Mem.box,Mem.row,h1,h2,h.r0,h.r1,h.r2,h.r3,h.r4,h.r5,e1,e2]⟩
structure aIK (s:Su) (t:Sp):Prop where
 ok:s.ok=true
 pc:t.pc.ok=true
 tl:t.tg.length=t.pc.hands.length
 st:t.aoN.length<=100000
 se:t.sets.length<=100000
 co:0<=t.aqy/\t.aqy<=1000000000000
section
variable {bs xs:List (Option (List PV))}{b n k:Nat}{y:Option (List PV)}
def aoF (h:b<bs.length):(bs++xs)[b]?=bs[b]?:=Y h
def apA (h:bs.length=n):(bs++xs)[n+k]?=xs[k]?:=by rw[<-h,aT (by omega)];congr 1;omega
def anZ (h:bs.length=n):(bs++xs)[n]?=xs[0]?:=by rw[<-h,aT (by omega)];congr 1;omega
def az5 (h:b<bs.length):(bs++xs).set b y=bs.set b y++xs:=List.set_append_left _ _ h
def aqP (h:bs.length=n):(bs++xs).set (n+k) y=bs++xs.set k y:=by rw[<-h,bk _ _ (by omega)];congr 2;omega
def aoo (h:bs.length=n):(bs++xs).set n y=bs++xs.set 0 y:=by rw[<-h,bk _ _ (by omega)];congr 2;omega
end
variable{s:Su}{a b mb:Nat}{cst cse:PV}{bs:List (Option (List PV))}{fz:List Nat}{ar:List (Option Arr)}
def ape.ext {t:Sp}{xs:List (Option (List PV))}{xf:List Nat}(h:ape s a b mb cst cse t ⟨bs,fz,ar⟩)(hf:∀i∈xf,bs.length<=i/\i<bs.length+xs.length):ape s a b mb cst cse t ⟨bs++xs,xf++fz,ar⟩/\FrS a b mb ⟨bs,fz,ar⟩ ⟨bs++xs,xf++fz,ar⟩:=by
 have d:b<bs.length:=(U.1 h.box).1;have f:mb<bs.length:=(U.1 h.map).1;constructor
 ·exact
  {box:=by simp only;rw[Y d];exact h.box
   map:=by simp only;rw[Y f];exact h.map
   r0:=h.r0,r1:=h.r1,r2:=h.r2,r3:=h.r3,r4:=h.r4,r5:=h.r5,stk:=h.stk,set:=h.set,kst:=h.kst,kse:=h.kse,dif:=h.dif
   nb:=fun e=>by
    rcases am.1 e with e|e
    ·have:=hf _ e;omega
    ·exact h.nb e
   nm:=fun e=>by
    rcases am.1 e with e|e
    ·have:=hf _ e;omega
    ·exact h.nm e
   bm:=h.bm
   fzb:=fun i e=>by
    simp only[V]
    rcases am.1 e with e|e
    ·have:=hf _ e;omega
    ·have:=h.fzb i e;simp only at this;omega}
 ·exact
  {len:=by simp
   fzb:=fun g i c=>by
    simp only[V]
    rcases am.1 c with e|e
    ·exact(hf _ e).2
    ·have:=g i e;simp only at this;omega
   aoc:=aq _
   box:=fun i c _ _=>Y c
   fz:=fun i c=>by
    simp only[am];refine⟨fun e=>e.elim (fun e=> ?_) id, .inr⟩;have:=hf _ e;simp only at c;omega
   row:=fun _ _=>rfl}
variable{W:Bool}{c:PV}
def aOQ {xs:List DV}{K:Int->Prop}(h:slR W c xs ar):asc c ⟨bs,fz,ar⟩ K=K xs.length:=by
 rcases h with⟨rfl,rfl⟩|⟨k,ver,st,rfl,a,_⟩
 ·rfl
 ·simp[asc,Mem.row,a]
def aOP {st1:Bool}{xs ys:List DV}{ex:Bool}{K:PV->Mem->Prop}(h:slR W c xs ar)(m:∀y∈ys,y.fits 1=true)(p:∀y∈xs,y.fits 1=true)(l:st1=true->ys≠[])(hl:xs.length+ys.length<=1073741824)
  (f:∀k ver st ar',(kOf c=some k\/k=ar.length)->ar'[k]?=some (some ⟨1,xs++ys,ver,st⟩)->(∀j,j≠k->j<ar.length->ar'[j]?=ar[j]?)->ar.length<=ar'.length->st≠2->(st1=true->st=1)->(st1=false->kOf c=some k->W=true->st=1\/xs=[])->(st1=false->kOf c=none->st=0)->K (.tsl k ver 0) ⟨bs,fz,ar'⟩):
  aqv 1 st1 c (.d (.slice ex ys)) ⟨bs,fz,ar⟩ K:=by
 rcases h with⟨rfl,rfl⟩|⟨k,ver,st,rfl,i,h2,n⟩
 ·simp only[aqv,auD]
  refine⟨by decide,m,l,trivial,by simp,by simpa using hl,?_⟩;refine f _ _ _ _ (.inr rfl) (by simp;rfl) (fun j g a=>by rw[Y a]) (by simp) (by cases st1<;>simp) (fun e=>by simp[e]) (fun _ e=>by cases e) (fun e _=>by simp[e])
 ·have b:k<ar.length:=(U.1 i).1
  simp only[aqv,auD,Mem.row,i,if_true];refine⟨by decide,m,l,trivial,h2,hl,?_⟩;refine f k (ver+1) _ _ (.inl rfl) (by simp[b];rfl) (fun j g _=>ae (Ne.symm g)) (by simp) (by cases st1<;>simp[h2]) (fun e=>by simp[e]) (fun e _ o=>by simpa[e]using n o) (fun _ e=>by cases e)
def De.one (x:De):PV.cells (.d x.dv)=[.d x.dv]/\x.dv.one=true:=⟨rfl,rfl⟩
def aXh {t:Sp}{M:Mem}(h:ape s a b mb cst cse t M)(W:aIK s t)(n:Int):
  SC C 113 [.ptr b 0, .d (De.cut n).dv] M (fun p M'=>∃t' atH,doS s t (.cut n)=some t'/\ape s a b mb atH cse t' M'/\FrS a b mb M M') (fun d M'=>doS s t (.cut n)=none/\aAN d/\FrS a b mb M M'):=by
 obtain⟨bs,fz,ar⟩:=M;have c:=h.box;rw[apK]at c;have u:=h.nb;have v:=h.r4;simp only at c u v;have f:b<bs.length:=(U.1 c).1;obtain⟨o1,o2,o3⟩:=az1 h.stk;have r:=(De.one (.cut n)).1;have A:=(De.one (.cut n)).2;have X:(De.cut n).dv= .iface T.aoZ (.agg [dI n]):=rfl;refine anJ an1 apc ?_;rw[X]at r A⊢;have R:bs.length∉fz:=fun e=>ai _ (h.fzb _ e)
 have j:∀k,bs.length+k∉fz:=fun k e=>by have:=h.fzb _ e;simp only at this;omega
 have x:¬b=bs.length:=by omega
 have z:∀k,¬b=bs.length+k:=fun k=>by omega
 have m:∀k,b<bs.length+k:=fun k=>by omega
 have l:¬bs.length+1=bs.length:=by omega
 have o:=aL2 s.dvd n (by have:=(Su.az7 W.ok).ci;omega);rw[atm,aBv]at o;simp only[an1,apc,r,arB,f,c,aoF,anZ,aoo,ao,V,av,j,m,l,an6,aH,aoq,RN,F,H,I,S];refine ap8 (asU (d:= .agg [dI s.dvd.aoG,sF (s.dvd.cir.map anF)]) (by simp[datum,aoi,aoO,Mem.row,v])) rfl o rfl ?_;have z0:((0:Int)==0)=true:=rfl
 by_cases g:(s.dvd.cuts n).2=0
 ·have aXT:((s.dvd.cuts n).2==0)=true:=by simp[g]
  simp only[aXT,f,c,aoF,apA,aqP,j,l,ao3,RN,F,H,J,S];refine⟨by simp,?_⟩;rw[aOQ h.stk]
  by_cases E:t.aoN.length<8
  ·have i:decide (((t.aoN.map anF).length:Int)<8)=true:=by simp;omega
   rw[i];refine⟨by kernel_rfl,ayp ?_⟩;simp only[f,c,aoF,m,V,DV.strip,aqi,RN,H,S];refine aOP h.stk (fun y G=>by simp only[aj]at G;subst G;rfl) aqU (by simp) (by simp;omega) fun k ver st ar' e1 e2 K L Y N _ _=> ?_
   have w:=N rfl;subst w;obtain⟨O,P⟩:=h.ext (xs:=[some [PV.d (DV.iface T.aoZ (DV.agg [dI n]))],some [PV.d (dI n)],some [PV.d (dI (s.dvd.cuts n).fst.circle),PV.d (dI (s.dvd.cuts n).fst.turns),PV.d (dI (s.dvd.cuts n).fst.holes)]]) (xf:=[bs.length+1,bs.length]) (by simp);have Q:a+5<ar.length:=(U.1 h.r5).1;obtain⟨B,D⟩:=O.aGa (k:=k) (ver:=ver) (st:=1) (xs:=t.aoN++ [n]) (ar':=ar') (by
     rcases e1 with e1|e1
     ·exact h.kst k e1
     ·omega) (fun e=>by
     rcases e1 with e1|e1
     ·exact h.dif k e1 e
     ·rcases h.set with⟨rfl,_⟩|⟨Z,_,_,rfl,q,_⟩
      ·cases e
      ·cases e
       have:=(U.1 q).1;simp only at this;omega) (by rw[e2];simp[anF]) K L ⟨by decide, .inl rfl⟩
   simp only[f,c,aoF,az5,x,z,u,aor,aox,RN,H,S];rw[az5 f]at B D;exact⟨_,_,by simp[doS,g,E],B,P.trans D⟩
  ·have i:decide (((t.aoN.map anF).length:Int)<8)=false:=by simp;omega
   rw[i];refine⟨by kernel_rfl,avl ⟨rfl,rfl⟩ ⟨by simp[doS,E],⟨_,rfl,rfl,rfl⟩,?_⟩⟩;exact(h.ext (xf:=[bs.length+1,bs.length]) (by simp)).2
 ·have aXT:((s.dvd.cuts n).2==0)=false:=by simp[g]
  simp only[aXT,apA,aqP,j,l,ao3,RN,F,H,J,S];refine⟨by simp,by kernel_rfl,avl ⟨rfl,rfl⟩ ⟨by simp[doS,g],⟨_,rfl,rfl,rfl⟩,?_⟩⟩;exact(h.ext (xf:=[bs.length+1,bs.length]) (by simp)).2
section
variable {C:Ctx}{base:Nat}{KP:DV->Mem->Prop}
variable{ks:List Nat}{b:Nat}{M:Mem}{K:PV->Mem->Prop}
def aYj {k v:DV}(l a:List (DV×DV))(hb:M.box b=some [.apZ l])(hf:b∉M.fz)(h1:apO ks k k=some true)(h2:ayw ks l k v=some a)(c:K .dead {M with boxes:=M.boxes.set b (some [.apZ a])}):
  anG C base (.aNi ks) [.mref b, .d k, .d v] M K KP:=by
 simp only[anG,hb,h1,h2];exact⟨hf,c⟩
def aYi {k:DV}(l a:List (DV×DV))(hb:M.box b=some [.apZ l])(hf:b∉M.fz)(h1:apO ks k k=some true)(h2:ayv ks l k=some a)(c:K (.d (.tup [])) {M with boxes:=M.boxes.set b (some [.apZ a])}):
  anG C base (.aNg ks) [.mref b, .d k] M K KP:=by
 simp only[anG,hb,h1,h2];exact⟨hf,c⟩
end
def au3 (h:Int):apO [] (dI h) (dI h)=some true:=by simp[apO]
variable{s:Su}{a b mb:Nat}{cst cse:PV}{bs:List (Option (List PV))}{fz:List Nat}{ar:List (Option Arr)}
def ape.aWK {t:Sp}(h:ape s a b mb cst cse t ⟨bs,fz,ar⟩)(c:List (Int×Fr)):
  ape s a b mb cst cse {t with op:=c} ⟨bs.set mb (some [.apZ (opD c)]),fz,ar⟩/\FrS a b mb ⟨bs,fz,ar⟩ ⟨bs.set mb (some [.apZ (opD c)]),fz,ar⟩:=by
 have d:mb<bs.length:=(U.1 h.map).1;constructor
 ·exact
  {box:=by simp only;rw[ae (Ne.symm h.bm)];exact h.box
   map:=by simp[d]
   r0:=h.r0,r1:=h.r1,r2:=h.r2,r3:=h.r3,r4:=h.r4,r5:=h.r5,stk:=h.stk,set:=h.set,kst:=h.kst,kse:=h.kse,dif:=h.dif
   nb:=h.nb,nm:=h.nm,bm:=h.bm
   fzb:=fun i e=>by simpa using h.fzb i e}
 ·exact
  {len:=by simp
   fzb:=fun f i g=>by have:=f i g;simpa using this
   aoc:=aq _
   box:=fun i _ _ h2=>by simp only;rw[ae (Ne.symm h2)]
   fz:=fun _ _=>aQ
   row:=fun _ _=>rfl}
variable{M:Mem}
def aRN {t:Sp}(h:ape s a b mb cst cse t M)(n:Int)(f:Fr):
  SC C 113 [.ptr b 0, .d (De.order n f).dv] M (fun p M'=>∃t' atH axb,doS s t (.order n f)=some t'/\ape s a b mb atH axb t' M'/\FrS a b mb M M') (fun d M'=>doS s t (.order n f)=none/\aAN d/\FrS a b mb M M'):=by
 obtain⟨bs,fz,ar⟩:=M;have c:=h.box;rw[apK]at c;have v:=h.nb;have g:=h.map;simp only at c v g;have m:b<bs.length:=(U.1 c).1;have q:mb<bs.length:=(U.1 g).1;obtain⟨N,O,P⟩:=az1 h.stk;have o:=(De.one (.order n f)).1;have r:=(De.one (.order n f)).2;have K:(De.order n f).dv= .iface T.aoU (.agg [dI n,dI f.n,dI f.d]):=rfl;rw[K]at o r⊢;have G:bs.length∉fz:=fun e=>ai _ (h.fzb _ e)
 have i:∀k,bs.length+k∉fz:=fun k e=>by have:=h.fzb _ e;simp only at this;omega
 have D:¬b=bs.length:=by omega
 have E:∀k,¬b=bs.length+k:=fun k=>by omega
 have l:∀k,b<bs.length+k:=fun k=>by omega
 have j:¬bs.length+1=bs.length:=by omega
 have x:(T.aoU==T.aoZ)=false:=by decide
 have y:(T.aoU==T.aoh)=false:=by decide
 refine anJ an1 apc ?_;simp only[an1,apc,o,arB,ao4 x,ao4 y,m,c,aoF,anZ,aoo,ao,V,av,i,l,j,RN,F,H,I,S];refine aF9 (opD t.op) ((ao9 t.op n).map Fr.dv) (by simp[Mem.box,Y q,g]) (au3 n) (az2 _ _) ?_;obtain⟨w,z⟩:=h.ext (xs:=[some [PV.d (DV.iface T.aoU (DV.agg [dI n,dI f.n,dI f.d]))],some [PV.d (dI n),pI f.n,pI f.d],some [pI 0,pI 0]]) (xf:=[bs.length+1,bs.length]) (by simp);cases u:ao9 t.op n with
 |none=>
  simp only[ay4,aH,bc,aJ,apA,aqP,i,j,ao3,RN,H,J,S];refine⟨by simp,by kernel_rfl,ayp ?_⟩;simp only[m,c,aoF,V,l,RN,H,S];refine aYj (opD t.op) (opD (t.op++ [(n,f)])) (by simp[Mem.box,Y q,g]) w.nm (au3 n) (by rw[<-aoa];exact aYp _ _ _ u) ?_;obtain⟨A,B⟩:=w.aWK (t.op++ [(n,f)]);exact⟨_,_,_,by simp[doS,u],A,z.trans B⟩
 |some L=>
  simp only[ay4,ay,aO,aK,apA,aqP,i,j,ao3,aoa,RN,H,J,S];refine⟨by simp,by kernel_rfl,avl ⟨rfl,rfl⟩ ⟨by simp[doS,u],⟨_,rfl,rfl,rfl⟩,?_⟩⟩;exact(h.ext (xf:=[bs.length+1,bs.length]) (by simp)).2
def ape.aVw {t:Sp}{ar':List (Option Arr)}(h:ape s a b mb cst cse t ⟨bs,fz,ar⟩){k ver st:Nat}{xs:List Int}(hk:a+6<=k)(hd:kOf cst≠some k)
  (h1:ar'[k]?=some (some ⟨1,xs.map anF,ver,st⟩))(h2:∀j,j≠k->j<ar.length->ar'[j]?=ar[j]?)(hl:ar.length<=ar'.length)(hst:st≠2):
  ape s a b mb cst (.tsl k ver 0) {t with sets:=xs} ⟨bs.set b (some (apK s a mb cst (.tsl k ver 0) t.aqy)),fz,ar'⟩/\FrS a b mb ⟨bs,fz,ar⟩ ⟨bs.set b (some (apK s a mb cst (.tsl k ver 0) t.aqy)),fz,ar'⟩:=by
 have g:b<bs.length:=(U.1 h.box).1;have d:∀(j:Nat) (A:Arr),j≠k->ar[j]?=some (some A)->ar'[j]?=some (some A):=fun j A c f=>by
  rw[h2 j c (U.1 f).1];exact f
 constructor
 ·exact
  {box:=by simp[g]
   map:=by
    have:=h.map;have n:=h.bm;simp only at this⊢;rw[ae n];exact this
   r0:=d _ _ (by omega) h.r0
   r1:=d _ _ (by omega) h.r1
   r2:=d _ _ (by omega) h.r2
   r3:=d _ _ (by omega) h.r3
   r4:=d _ _ (by omega) h.r4
   r5:=d _ _ (by omega) h.r5
   stk:=atd h.stk fun j A c f=>d j A (fun e=>hd (e▸c)) f
   set:= .inr ⟨k,ver,st,rfl,h1,hst,fun e=>by cases e⟩
   kst:=h.kst
   kse:=fun j c=>by cases c;exact hk
   dif:=fun j c e=>by cases e;exact hd c
   nb:=h.nb
   nm:=h.nm
   bm:=h.bm
   fzb:=fun i l=>by simpa using h.fzb i l}
 ·exact
  {len:=by simp
   fzb:=fun p i l=>by have:=p i l;simpa using this
   aoc:=hl
   box:=fun i _ o _=>by simp only;rw[ae (Ne.symm o)]
   fz:=fun _ _=>aQ
   row:=fun j c=>by
    by_cases m:j<ar.length
    ·exact h2 j (by omega) m
    ·exact absurd (U.1 h.r0).1 (by simp only;omega)}
def aXi {t:Sp}(h:ape s a b mb cst cse t M)(P:aIK s t)(n:Nat)(hn:n<s.days.length):
  SC C 113 [.ptr b 0, .d (De.set (n+1:Nat)).dv] M (fun p M'=>∃t' atH axb,doS s t (.set (n+1:Nat))=some t'/\ape s a b mb atH axb t' M'/\FrS a b mb M M') (fun d M'=>doS s t (.set (n+1:Nat))=none/\aAN d/\FrS a b mb M M'):=by
 obtain⟨bs,fz,ar⟩:=M;have c:=h.box;rw[apK]at c;have u:=h.nb;simp only at c u;have f:b<bs.length:=(U.1 c).1;obtain⟨o1,o2,o3⟩:=az1 h.set;have r:=(De.one (.set (n+1:Nat))).1;have D:=(De.one (.set (n+1:Nat))).2;have hx:(De.set (n+1:Nat)).dv= .iface T.ao0 (.agg [dI (n+1:Nat)]):=rfl;rw[hx]at r D⊢;have ah:bs.length∉fz:=fun e=>ai _ (h.fzb _ e)
 have I:∀k,bs.length+k∉fz:=fun k e=>by have:=h.fzb _ e;simp only at this;omega
 have z:¬b=bs.length:=by omega
 have A:∀k,¬b=bs.length+k:=fun k=>by omega
 have g:∀k,b<bs.length+k:=fun k=>by omega
 have J:¬bs.length+1=bs.length:=by omega
 have R:(T.ao0==T.aoZ)=false:=by decide
 have W:(T.ao0==T.aoh)=false:=by decide
 have X:(T.ao0==T.aoU)=false:=by decide
 have Y:(T.ao0==T.aoK)=false:=by decide
 have ae:s.days.length<=366:=by
  have:=aq7 (s.cal.leap s.year);simp only[Su.days,Su.asM,ab,bu,Su.dur]
  split at this<;>omega
 have e1:bJ .i64 (((n+1:Nat):Int) - 1)=(n:Int):=by rw[anI (by omega)];omega
 have e2:(0:Int)<=(n:Int):=by omega
 have m:((((n+1:Nat):Int) - 1).toNat)=n:=by omega
 refine anJ an1 apc ?_;simp only[an1,apc,r,arB,ao4 R,ao4 W,ao4 X,ao4 Y,f,c,aoF,anZ,aoo,ao,V,av,I,g,J,e1,e2,an,hn,ab,getD_map,aMz,RN,F,H,S];obtain⟨g1,g2⟩:=h.ext (xs:=[some [PV.d (DV.iface T.ao0 (DV.agg [dI (n+1:Nat)]))],some [PV.d (dI (n+1:Nat))]]) (xf:=[bs.length+1,bs.length]) (by simp);have ac:a+5<ar.length:=(U.1 h.r5).1;have j:∀(KP:DV->Mem->Prop),doS s t (.set (n+1:Nat))=some {t with sets:=t.sets++ [((n+1:Nat):Int)]}->
   aqv 1 false cse (PV.d (DV.slice true [dI (n+1:Nat)])) ⟨bs++ [some [PV.d (DV.iface T.ao0 (DV.agg [dI (n+1:Nat)]))],some [PV.d (dI (n+1:Nat))]],(bs.length+1)::bs.length::fz,ar⟩ (fun v x=>
    apJ 1 (PV.ptr b 21) v x fun M'=>∃t' atH axb,doS s t (.set (n+1:Nat))=some t'/\ape s a b mb atH axb t' M'/\FrS a b mb ⟨bs,fz,ar⟩ M'):=by
  intro _ E;refine aOP h.set (fun y Q=>by simp only[aj]at Q;subst Q;rfl) aqU (by simp) (by have:=P.se;simp;omega) fun k ver st ar' e1 e2 m Z e5 e6 _ _=> ?_
  obtain⟨K,L⟩:=g1.aVw (k:=k) (ver:=ver) (st:=st) (xs:=t.sets++ [((n+1:Nat):Int)]) (ar':=ar') (by
    rcases e1 with e1|e1
    ·exact h.kse k e1
    ·omega) (fun e=>by
    rcases e1 with e1|e1
    ·exact h.dif k e e1
    ·rcases h.stk with⟨rfl,_⟩|⟨k',_,_,rfl,q,_⟩
     ·cases e
     ·cases e
      have:=(U.1 q).1;simp only at this;omega) (by rw[e2];simp[anF]) m Z e5
  simp only[f,c,aoF,az5,z,A,u,aor,aox,RN,H,S];rw[az5 f]at K L;exact⟨_,_,_,E,K,g2.trans L⟩
 cases w:(s.days.getD n default).2
 ·simp only[ao3,RN,F,S]
  refine⟨by kernel_rfl,avl ⟨rfl,rfl⟩ ⟨by simp only[doS,m,w,ax];rfl,⟨_,rfl,rfl,rfl⟩,?_⟩⟩;exact(h.ext (xf:=[bs.length+1,bs.length]) (by simp)).2
 ·by_cases o:t.sets=[]
  ·have l:(((t.sets.map anF).length:Int)==0)=true:=by simp[o]
   simp only[f,c,aoF,g,ao3,aOQ h.set,l,RN,F,H,S];refine⟨by kernel_rfl,ayp ?_⟩;simp only[f,c,aoF,V,g,DV.strip,aqi,RN,H,S];exact j (fun _ _=>True) (by simp only[doS,m,w,o];rfl)
  ·have l:((t.sets.length:Int)==0)=false:=by simp[o]
   rcases h.set with⟨_,hh⟩|⟨k,ver,st,B,N,_⟩
   ·exact absurd (by simpa using hh) o
   simp only at N;have O:0<t.sets.length:=List.length_pos_iff.2 o;have q1:bJ .i64 ((t.sets.length:Int) - 1)=((t.sets.length - 1:Nat):Int):=by rw[anI (by have:=P.se;omega)];omega
   have q2:(0:Int)<=((t.sets.length - 1:Nat):Int):=by omega
   have q3:t.sets.length - 1<t.sets.length:=by omega
   simp only[f,c,aoF,g,ao3,B,bz,l,q1,q2,q3,N,an,ab,getD_map,anM,RN,F,H,S];refine⟨by kernel_rfl,?_⟩
   by_cases i:((n+1:Nat):Int)>t.sets.getD (t.sets.length - 1) default
   ·rw[decide_eq_true i]
    refine ayp ?_;simp only[f,c,aoF,V,g,DV.strip,aqi,RN,H,S];exact j (fun _ _=>True) (by simp only[doS,m,w,decide_eq_true i,Bool.or_true,aX,if_true])
   ·rw[decide_eq_false i]
    have G:t.sets.isEmpty=false:=by simpa using o
    refine avl ⟨rfl,rfl⟩ ⟨by simp only[doS,m,w,decide_eq_false i,G,Bool.or_false,bl];rfl,⟨_,rfl,rfl,rfl⟩,?_⟩;exact(h.ext (xf:=[bs.length+1,bs.length]) (by simp)).2
variable{ds:List DV}
def aDW {p:PV}{d:DV}{ps:List PV}(h:datum M p=some d)(a:aos M ps=some ds):aos M (p::ps)=some (d::ds):=by
 simp only[aos,h,a]
def ape.aZI {t:Sp}(h:ape s a b mb cst cse t ⟨bs,fz,ar⟩)(c:List Fr):
  ape s a b mb cst cse {t with tg:=c} ⟨bs,fz,ar.set (a+2) (some ⟨2,c.map Fr.dv,0,1⟩)⟩/\FrS a b mb ⟨bs,fz,ar⟩ ⟨bs,fz,ar.set (a+2) (some ⟨2,c.map Fr.dv,0,1⟩)⟩:=by
 have g:a+2<ar.length:=(U.1 h.r2).1;have d:∀(j:Nat) (A:Arr),j≠a+2->ar[j]?=some (some A)->(ar.set (a+2) (some ⟨2,c.map Fr.dv,0,1⟩))[j]?=some (some A):=fun j A e f=>by
  rw[ae (Ne.symm e)];exact f
 constructor
 ·exact
  {box:=h.box
   map:=h.map
   r0:=d _ _ (by omega) h.r0
   r1:=d _ _ (by omega) h.r1
   r2:=by simp[g]
   r3:=d _ _ (by omega) h.r3
   r4:=d _ _ (by omega) h.r4
   r5:=d _ _ (by omega) h.r5
   stk:=atd h.stk fun j A e f=>d j A (by have:=h.kst j e;omega) f
   set:=atd h.set fun j A e f=>d j A (by have:=h.kse j e;omega) f
   kst:=h.kst,kse:=h.kse,dif:=h.dif,nb:=h.nb,nm:=h.nm,bm:=h.bm,fzb:=h.fzb}
 ·exact
  {len:=aq _
   fzb:=fun k i l=>by have:=k i l;simpa using this
   aoc:=by simp
   box:=fun _ _ _ _=>rfl
   fz:=fun _ _=>aQ
   row:=fun j e=>by simp only;rw[ae (by omega)]}
def ape.aSJ {t:Sp}(h:ape s a b mb cst cse t ⟨bs,fz,ar⟩)(c:Int):
  ape s a b mb cst cse {t with aqy:=c} ⟨bs.set b (some (apK s a mb cst cse c)),fz,ar⟩/\FrS a b mb ⟨bs,fz,ar⟩ ⟨bs.set b (some (apK s a mb cst cse c)),fz,ar⟩:=by
 have d:b<bs.length:=(U.1 h.box).1;constructor
 ·exact
  {box:=by simp[d]
   map:=by
    have:=h.map;have f:=h.bm;simp only at this⊢;rw[ae f];exact this
   r0:=h.r0,r1:=h.r1,r2:=h.r2,r3:=h.r3,r4:=h.r4,r5:=h.r5,stk:=h.stk,set:=h.set
   kst:=h.kst,kse:=h.kse,dif:=h.dif,nb:=h.nb,nm:=h.nm,bm:=h.bm
   fzb:=fun i e=>by simpa using h.fzb i e}
 ·exact
  {len:=by simp
   fzb:=fun j i e=>by have:=j i e;simpa using this
   aoc:=aq _
   box:=fun i _ g _=>by simp only;rw[ae (Ne.symm g)]
   fz:=fun _ _=>aQ
   row:=fun _ _=>rfl}
def aRO {t:Sp}(h:ape s a b mb cst cse t M)(v:aIK s t)(n:Nat)(hn:n<t.pc.hands.length)(c:Int)(hc:0<=c/\c<=1000000000):
  SC C 113 [.ptr b 0, .d (De.serve n c).dv] M (fun p M'=>∃t' atH axb,doS s t (.serve n c)=some t'/\ape s a b mb atH axb t' M'/\FrS a b mb M M') (fun d M'=>doS s t (.serve n c)=none/\aAN d/\FrS a b mb M M'):=by
 obtain⟨bs,fz,ar⟩:=M;have g:=h.box;rw[apK]at g;have W:=h.nb;have i:=h.map;have q:=h.r2;simp only at g W i q;have z:b<bs.length:=(U.1 g).1;have E:mb<bs.length:=(U.1 i).1;obtain⟨o1,o2,o3⟩:=az1 h.stk;have A:=(De.one (.serve n c)).1;have R:=(De.one (.serve n c)).2;have hx:(De.serve n c).dv= .iface T.aoK (.agg [dI n,dI c]):=rfl;rw[hx]at A R⊢;have aj:bs.length∉fz:=fun e=>ai _ (h.fzb _ e)
 have o:∀k,bs.length+k∉fz:=fun k e=>by have:=h.fzb _ e;simp only at this;omega
 have ac:¬b=bs.length:=by omega
 have ae:∀k,¬b=bs.length+k:=fun k=>by omega
 have y:∀k,b<bs.length+k:=fun k=>by omega
 have r:¬bs.length+1=bs.length:=by omega
 have c1:(T.aoK==T.aoZ)=false:=by decide
 have c2:(T.aoK==T.aoh)=false:=by decide
 have c3:(T.aoK==T.aoU)=false:=by decide
 have ah:=(Pc.avi v.pc).2;have ak:=(Pc.avi v.pc).1;have D:0<=s.lim/\s.lim<=10800:=by simpa[inR]using(Su.facts v.ok).2.2.1
 refine anJ an1 apc ?_;simp only[an1,apc,A,arB,ao4 c1,ao4 c2,ao4 c3,z,g,aoF,anZ,aoo,ao,V,av,o,y,r,RN,F,H,I,S];refine aF9 (opD t.op) ((ao9 t.op n).map Fr.dv) (by simp[Mem.box,Y E,i]) (au3 n) (az2 _ _) ?_;cases N:ao9 t.op n with
 |none=>
  simp only[ay4,aH,bc,aJ,apA,aqP,V,o,r,ao3,RN,F,H,J,S];refine⟨by simp,by kernel_rfl,avl ⟨rfl,rfl⟩ ⟨by simp[doS,N],⟨_,rfl,rfl,rfl⟩,?_⟩⟩;exact(h.ext (xf:=[bs.length+2,bs.length+1,bs.length]) (by simp)).2
 |some f=>
  obtain⟨O,P⟩:=h.ext (xs:=[some [PV.d (DV.iface T.aoK (DV.agg [dI n,dI c]))],some [PV.d (dI n),pI c],some [pI f.n,pI f.d]]) (xf:=[bs.length+2,bs.length+1,bs.length]) (by simp);obtain⟨e1,e2,K⟩:=aLL O;have hk:=aSu e1 e2 s t n f 100 (by omega) (by omega) D;have hp:=aOA e1 e2 s t n v.pc hn;rw[aoa,aom]at hk;rw[aom]at hp;simp only[ay4,ay,aO,aK,apA,aqP,V,o,r,aoa,RN,F,H,J,S];refine⟨by simp,?_⟩;refine ap8 (aDW K rfl) rfl hk rfl ?_;cases m:aAj s t n f 100
  ·simp only[ao3,RN,F,H,S]
   exact⟨by kernel_rfl,avl ⟨rfl,rfl⟩ ⟨by simp[doS,N,m],⟨_,rfl,rfl,rfl⟩,P⟩⟩
  ·simp only[RN,F,H,S]
   refine ap8 (aDW K rfl) rfl hp rfl ?_;simp only[ao3,RN];refine⟨by kernel_rfl,?_⟩
   by_cases l:c>=aya s t n
   ·rw[decide_eq_true l]
    refine ayp ?_;simp only[z,g,aoF,V,y,RN,H,S];refine aYi (opD t.op) (opD (axk t.op n)) (by simp[Mem.box,Y E,i]) O.nm (au3 n) (aYo _ _) ?_;obtain⟨L,X⟩:=O.aWK (axk t.op n);obtain⟨B,Z⟩:∃B,B=(bs++ [some [PV.d (DV.iface T.aoK (DV.agg [dI n,dI c]))],some [PV.d (dI n),pI c],some [pI f.n,pI f.d]]).set mb (some [.apZ (opD (axk t.op n))]):=⟨_,rfl⟩
    rw[<-Z]at L X;simp only[<-Z];have j:=L.box;rw[apK]at j;have w:b<B.length:=(U.1 j).1;have x:=L.nb;simp only at j x;have u:n<t.tg.length:=by rw[v.tl];exact hn
    have j0:(0:Int)<=(n:Int):=by omega
    simp only[j,w,q,j0,u,an,ab,RN,H,S];have G:(t.tg.map Fr.dv).set n (setCells ((t.tg.map Fr.dv).getD n default) 0 [dI f.n,dI f.d])=(t.tg.set n f).map Fr.dv:=by
     rw[bw,getD_map u];rfl
    have Q:bJ .i64 (t.aqy+c)=t.aqy+c:=anI (by have:=v.co;omega);refine awx (ds:=[dI f.n,dI f.d]) q rfl (by decide) rfl rfl (by rw[getD_map u];exact aq 2) ?_;rw[G];obtain⟨g5,g6⟩:=L.aZI (t.tg.set n f);obtain⟨g7,g8⟩:=g5.aSJ (t.aqy+c);simp only[j,w,Q,RN,H,S];refine⟨by simpa using x,{t with op:=axk t.op n,tg:=t.tg.set n f,aqy:=t.aqy+c},cst,cse,by simp[doS,N,m,l],g7,?_⟩;exact((P.trans X).trans g6).trans g8
   ·rw[decide_eq_false l]
    exact avl ⟨rfl,rfl⟩ ⟨by simp[doS,N,m,l],⟨_,rfl,rfl,rfl⟩,P⟩
def aPG {t:Sp}(h:ape s a b mb cst cse t M)(n:Int):
  SC C 113 [.ptr b 0, .d (De.strike n).dv] M (fun p M'=>∃t' atH axb,doS s t (.strike n)=some t'/\ape s a b mb atH axb t' M'/\FrS a b mb M M') (fun d M'=>doS s t (.strike n)=none/\aAN d/\FrS a b mb M M'):=by
 obtain⟨bs,fz,ar⟩:=M;have c:=(De.one (.strike n)).1;have e:=(De.one (.strike n)).2;have o:(De.strike n).dv= .iface T.aoe (.agg [dI n]):=rfl;rw[o]at c e⊢;have f:(T.aoe==T.aoZ)=false:=by decide
 have g:(T.aoe==T.aoh)=false:=by decide
 have i:(T.aoe==T.aoU)=false:=by decide
 have j:(T.aoe==T.aoK)=false:=by decide
 have k:(T.aoe==T.ao0)=false:=by decide
 refine anJ an1 apc ?_;simp only[an1,apc,c,anZ,ao4 f,ao4 g,ao4 i,ao4 j,ao4 k,aoo,V,RN,F,H,S];obtain⟨l,m⟩:=h.ext (xs:=[some [PV.d (DV.iface T.aoe (DV.agg [dI n]))]]) (xf:=[bs.length]) (by simp);exact⟨t,cst,cse,rfl,l,m⟩
def aJ2 {base:Nat}{KP:DV->Mem->Prop}{f:FuncId}{args:List PV}{ds':List DV}{r:PV}{c:List Arr}(h:Pure C f ds' r c)(g:aFN r=true)(a:c.all apY=true){K:PV->Mem->Prop}
  (b:aos M args=some ds)(e:ds.map DV.strip=ds')(d:K (r.shift M.anK.length) {M with anK:=M.anK++c.map some}):anG C base (.aBp f) args M K KP:=
 ⟨_,_,aLC h g a b e ⟨rfl,rfl⟩,d⟩
def ape.rows {t:Sp}{xs:List (Option Arr)}(h:ape s a b mb cst cse t ⟨bs,fz,ar⟩):ape s a b mb cst cse t ⟨bs,fz,ar++xs⟩/\FrS a b mb ⟨bs,fz,ar⟩ ⟨bs,fz,ar++xs⟩:=by
 have c:∀(j:Nat) (A:Arr),ar[j]?=some (some A)->(ar++xs)[j]?=some (some A):=fun j A d=>by
  rw[Y (U.1 d).1];exact d
 constructor
 ·exact
  {box:=h.box,map:=h.map
   r0:=c _ _ h.r0,r1:=c _ _ h.r1,r2:=c _ _ h.r2,r3:=c _ _ h.r3,r4:=c _ _ h.r4,r5:=c _ _ h.r5
   stk:=atd h.stk fun j A _ d=>c j A d
   set:=atd h.set fun j A _ d=>c j A d
   kst:=h.kst,kse:=h.kse,dif:=h.dif,nb:=h.nb,nm:=h.nm,bm:=h.bm,fzb:=h.fzb}
 ·exact
  {len:=aq _
   fzb:=fun e i f=>by have:=e i f;simpa using this
   aoc:=by simp
   box:=fun _ _ _ _=>rfl
   fz:=fun _ _=>aQ
   row:=fun j g=>by
    have:=(U.1 h.r0).1;simp only at this⊢;rw[Y (by omega)]}
def ape.other {t:Sp}(h:ape s a b mb cst cse t ⟨bs,fz,ar⟩){k:Nat}{A:Arr}(hk:a+6<=k)(h1:kOf cst≠some k)(h2:kOf cse≠some k):
  ape s a b mb cst cse t ⟨bs,fz,ar.set k (some A)⟩/\FrS a b mb ⟨bs,fz,ar⟩ ⟨bs,fz,ar.set k (some A)⟩:=by
 have c:∀(j:Nat) (B:Arr),j≠k->ar[j]?=some (some B)->(ar.set k (some A))[j]?=some (some B):=fun j B d g=>by
  rw[ae (Ne.symm d)];exact g
 constructor
 ·exact
  {box:=h.box,map:=h.map
   r0:=c _ _ (by omega) h.r0
   r1:=c _ _ (by omega) h.r1
   r2:=c _ _ (by omega) h.r2
   r3:=c _ _ (by omega) h.r3
   r4:=c _ _ (by omega) h.r4
   r5:=c _ _ (by omega) h.r5
   stk:=atd h.stk fun j B d f=>c j B (fun e=>h1 (e▸d)) f
   set:=atd h.set fun j B d f=>c j B (fun e=>h2 (e▸d)) f
   kst:=h.kst,kse:=h.kse,dif:=h.dif,nb:=h.nb,nm:=h.nm,bm:=h.bm,fzb:=h.fzb}
 ·exact
  {len:=aq _
   fzb:=fun l i m=>by have:=l i m;simpa using this
   aoc:=by simp
   box:=fun _ _ _ _=>rfl
   fz:=fun _ _=>aQ
   row:=fun j d=>by simp only;rw[ae (by omega)]}
def ape.aZG {t:Sp}(h:ape s a b mb cst cse t ⟨bs,fz,ar⟩)(p:Pc)(l:p.hands=t.pc.hands):
  ape s a b mb cst cse {t with pc:=p} ⟨bs,fz,ar.set a (some ⟨3,p.links.map Lk.dv,0,1⟩)⟩/\FrS a b mb ⟨bs,fz,ar⟩ ⟨bs,fz,ar.set a (some ⟨3,p.links.map Lk.dv,0,1⟩)⟩:=by
 have f:a<ar.length:=(U.1 h.r0).1;have c:∀(j:Nat) (A:Arr),j≠a->ar[j]?=some (some A)->(ar.set a (some ⟨3,p.links.map Lk.dv,0,1⟩))[j]?=some (some A):=fun j A d e=>by
  rw[ae (Ne.symm d)];exact e
 constructor
 ·exact
  {box:=h.box,map:=h.map
   r0:=by simp[f]
   r1:=c _ _ (by omega) (by rw[l];exact h.r1)
   r2:=c _ _ (by omega) h.r2
   r3:=c _ _ (by omega) h.r3
   r4:=c _ _ (by omega) h.r4
   r5:=c _ _ (by omega) h.r5
   stk:=atd h.stk fun j A d e=>c j A (by have:=h.kst j d;omega) e
   set:=atd h.set fun j A d e=>c j A (by have:=h.kse j d;omega) e
   kst:=h.kst,kse:=h.kse,dif:=h.dif,nb:=h.nb,nm:=h.nm,bm:=h.bm,fzb:=h.fzb}
 ·exact
  {len:=aq _
   fzb:=fun g i k=>by have:=g i k;simpa using this
   aoc:=by simp
   box:=fun _ _ _ _=>rfl
   fz:=fun _ _=>aQ
   row:=fun j d=>by simp only;rw[ae (by omega)]}
section
variable {C:Ctx}{base:Nat}{KP:DV->Mem->Prop}{K:PV->Mem->Prop}{M:Mem}{x y:PV}{l:List PV}
def atO:anG C base (.ext 0) [.tup (x::l)] M K KP=K x M:=px
def atP:anG C base (.ext 1) [.tup (x::y::l)] M K KP=K y M:=px
end
variable{f:FuncId}{args:List PV}{M:Mem}{K:PV->Mem->Prop}{KP:DV->Mem->Prop}
def aGY (h:SC C f args M K (fun _ _=>False)):SC C f args M K KP:=by
 intro X w E a i g;refine(h X w E a i g).mono fun e l b=> ?_
 cases e with
 |returned v=>exact b
 |panicked c=>
  obtain⟨v,d,k,j,_,hh,_⟩:=b;exact hh.elim
 |outgrown=>exact b.elim
def aNT (p q:Pc):(p.aq1 q).length<=p.hands.length:=aCP _ _ _ _
def aBE (l:List Int):apY ⟨1,l.map anF,0,avk l⟩=true:=by
 cases l with
 |nil=>rfl
 |cons x l=>
  have:∀l:List Int,(flat (l.map anF)).all aAh=true:=by
   intro l
   induction l with
   |nil=>rfl
   |cons x l a=>simp only[flat,aF,List.flatMap_cons,List.all_append]at a⊢;rw[a];rfl
  simp only[apY,this (x::l)]
  rfl
variable{bs:List (Option (List PV))}{b:Nat}
def aU1 {y:Option (List PV)}(h:b<bs.length):(bs.set b y)[b]?=some y:=by simp[h]
variable{W:Bool}{c:PV}{xs:List DV}{fz:List Nat}{ar:List (Option Arr)}
def aTL {x:PV}{ys:List DV}(h:slR W c xs ar)(hx:auD 1 x ⟨bs,fz,ar⟩=some ys)(g:∀y∈ys,y.fits 1=true)(hl:xs.length+ys.length<=1073741824)
  (e:∀k ver st ar',((kOf c=some k/\(∃l,ar[k]?=some (some ⟨1,xs,l,st⟩))/\(W=true->st=1\/xs=[]))\/(kOf c=none/\k=ar.length/\st=0/\xs=[]))->ar'[k]?=some (some ⟨1,xs++ys,ver,st⟩)->(∀j,j≠k->j<ar.length->ar'[j]?=ar[j]?)->ar.length<=ar'.length->st≠2->K (.tsl k ver 0) ⟨bs,fz,ar'⟩):
  aqv 1 false c x ⟨bs,fz,ar⟩ K:=by
 rcases h with⟨rfl,rfl⟩|⟨k,ver,st,rfl,b,h2,i⟩
 ·simp only[aqv,hx]
  refine⟨by decide,g,by simp,trivial,by simp,by simpa using hl,?_⟩;exact e _ _ 0 _ (.inr ⟨rfl,rfl,rfl,rfl⟩) (by simp) (fun j f a=>by rw[Y a]) (by simp) (by simp)
 ·have d:k<ar.length:=(U.1 b).1
  simp only[aqv,hx,Mem.row,b,if_true];refine⟨by decide,g,by simp,trivial,h2,hl,?_⟩;exact e k (ver+1) st _ (.inl ⟨rfl,⟨ver,b⟩,i⟩) (by simp[d]) (fun j f _=>ae (Ne.symm f)) (by simp) h2
def aUA (s:Su)(a b mb:Nat)(cst cse:PV)(t:Sp)(bs:List (Option (List PV)))(fz:List Nat)(ar:List (Option Arr))(g:Nat)(o v:Int)(P:Nat->Nat->Prop)(c:Chg)(h:Pr)(r:Option (List Int×List Int))(e:Ex)(st:St):Prop:=
 match e with
 | .normal=>∃s1 p1 aIV ver i f ex,r=some (s1,p1)/\st=⟨[(0, .ptr b 0),(4, .d (.func (.func 207) [] [.anY [.iface T.aoh (.agg [.int .i64 c.link, .int .i64 c.pr.a, .int .i64 c.pr.b])]])),(8, .d (.anY [.int .i64 c.link, .int .i64 c.pr.a, .int .i64 c.pr.b])),(15, .d (.anY [.int .i64 h.a, .int .i64 h.b])),(16, .tsl g ver 0)]++ex,f⟩/\
   ape s a b mb aIV cse {t with aoN:=s1} f/\FrS a b mb ⟨bs,fz,ar⟩ f/\f.anK[g]?=some (some ⟨1,p1.map anF,ver,i⟩)/\i≠2/\kOf aIV≠some g/\g<f.anK.length/\kOf cse≠some g/\(p1=[]\/∃k ver,aIV= .tsl k ver 0/\f.anK[k]?=some (some ⟨1,s1.map anF,ver,1⟩))
 | .panic d=>r=none/\aAN d/\FrS a b mb ⟨bs,fz,ar⟩ st.mem
 | _=>False
def aRA (s:Su)(a b mb:Nat)(cse:PV)(t:Sp)(bs:List (Option (List PV)))(fz:List Nat)(ar:List (Option Arr))(g:Nat)(c:Chg)(r:Option (List Int×List Int))(e:Ex)(st:St):Prop:=
 match e with
 | .normal=>∃s1 p1 aIV ver h env f,r=some (s1,p1)/\st=⟨env,f⟩/\Am.look env 0= .ptr b 0/\Am.look env 8= .d (.anY [.int .i64 c.link, .int .i64 c.pr.a, .int .i64 c.pr.b])/\Am.look env 16= .tsl g ver 0/\
   ape s a b mb aIV cse {t with aoN:=s1} f/\FrS a b mb ⟨bs,fz,ar⟩ f/\f.anK[g]?=some (some ⟨1,p1.map anF,ver,h⟩)/\h≠2/\kOf aIV≠some g/\g<f.anK.length/\kOf cse≠some g/\(p1=[]\/∃k ver,aIV= .tsl k ver 0/\f.anK[k]?=some (some ⟨1,s1.map anF,ver,1⟩))
 | .panic d=>r=none/\aAN d/\FrS a b mb ⟨bs,fz,ar⟩ st.mem
 | _=>False
variable{s1 p1:List Int}
def aID {st ps:List Int}{o v:Int}(h:ash st ps o v=some (s1,p1)):s1.length<=st.length/\p1.length<=ps.length+1:=by
 unfold ash at h
 split at h
 ·cases h;omega
 ·split at h
  ·cases h
   simp only[V,aw,au];exact⟨List.length_erase_le,by omega⟩
  ·cases h
def aHU (R:aQ5){s:Su}{a b mb:Nat}{cst cse:PV}{t:Sp}{M:Mem}(h:ape s a b mb cst cse t M)(ht:aIK s t)(c:Chg)(hc:t.pc.ayS c=true):
  SC C 113 [.ptr b 0, .d (De.change c).dv] M (fun p M'=>∃t' atH axb,doS s t (.change c)=some t'/\ape s a b mb atH axb t' M'/\FrS a b mb M M') (fun d M'=>doS s t (.change c)=none/\aAN d/\FrS a b mb M M'):=by
 obtain⟨bs,fz,ar⟩:=M;have w:=h.box;rw[apK]at w;have a1:=h.nb;have W:=h.map;have aE:=h.r0;have aF:=h.r1;simp only at w a1 W aE aF;have aN:b<bs.length:=(U.1 w).1;have a8:mb<bs.length:=(U.1 W).1;have aB:=(De.one (.change c)).1;have aU:=(De.one (.change c)).2;have hx:(De.change c).dv= .iface T.aoh (.agg [dI c.link,dI c.pr.a,dI c.pr.b]):=rfl;rw[hx]at aB aU⊢;have a9:bs.length∉fz:=fun e=>ai _ (h.fzb _ e)
 have a0:∀k,bs.length+k∉fz:=fun k e=>by have:=h.fzb _ e;simp only at this;omega
 have a5:¬b=bs.length:=by omega
 have a6:∀k,¬b=bs.length+k:=fun k=>by omega
 have aM:∀k,b<bs.length+k:=fun k=>by omega
 have a3:¬bs.length+1=bs.length:=by omega
 have c1:(T.aoh==T.aoZ)=false:=by decide
 have au:=aRb t.pc c hc;rw[aot,ap9]at au;refine anJ an1 apc ?_;simp only[an1,apc,aB,arB,ao4 c1,aN,w,aoF,anZ,aoo,ao,V,av,a0,aM,a3,an6,aoq,RN,F,H,S];obtain⟨sp,aU7⟩:∃sp,sp=t.pc.aq1 (t.pc.changed c):=⟨_,rfl⟩
 rw[<-aU7]at au;refine aJ2 au rfl (by simp only[aZ,be,aY];exact aBE sp) (asU (d:= .agg [sF (t.pc.links.map Lk.dv),sF (t.pc.hands.map anF)]) (by simp[datum,aoi,aoO,Mem.row,aE,aF])) rfl ?_;obtain⟨g1,g2⟩:=h.ext (xs:=[some [PV.d (DV.iface T.aoh (DV.agg [dI c.link,dI c.pr.a,dI c.pr.b]))],some [PV.d (dI c.link),PV.d (dI c.pr.a),PV.d (dI c.pr.b)]]) (xf:=[bs.length+1,bs.length]) (by simp);obtain⟨g3,g4⟩:=g1.rows (xs:=[some ⟨1,sp.map anF,0,avk sp⟩]);have y0:((0:Int)==0)=true:=rfl;have aC:(ar++ [some (⟨1,sp.map anF,0,avk sp⟩:Arr)])[ar.length]?=some (some ⟨1,sp.map anF,0,avk sp⟩):=by simp
 simp only[PV.shift,aG0,apR,y0,ao3,atO,atP,RN];refine⟨by kernel_rfl,ayp ?_⟩;have aX8:sp.length<=4:=by
  have:=(Pc.avi ht.pc).2.2;rw[aU7];exact ah (aNT _ _) this
 simp only[aC,bz,ab,RN];refine anL sp.length (fun i (y:Mem)=>⟨[(0, .ptr b 0),(4, .d (.func (.func 207) [] [.anY [.iface T.aoh (.agg [dI c.link,dI c.pr.a,dI c.pr.b])]])),(8, .d (.anY [dI c.link,dI c.pr.a,dI c.pr.b])),(83, .tsl ar.length 0 0),(84,pI sp.length),(85,pI i)],y⟩)
  (fun i y=>ape s a b mb cst cse t y/\FrS a b mb ⟨bs,fz,ar⟩ y/\y.anK[ar.length]?=some (some ⟨1,sp.map anF,0,avk sp⟩)/\(sp.all fun h=>(ao9 t.op h).isSome)=((sp.drop i).all fun h=>(ao9 t.op h).isSome)) 0 _ (aS _) rfl ⟨g3,g2.trans g4,aC,rfl⟩ (fun i y k1 aj=> ?_) (fun y aj=> ?_)
 ·obtain⟨k2,k3,k6⟩:=rng k1 (by omega)
  obtain⟨p1,p2,p3,Z⟩:=aj;rw[drop_cons k1,aZ]at Z;obtain⟨g,z,j⟩:=y;have avZ:=p1.box;rw[apK]at avZ;have l:=p1.map;simp only at avZ l p3;have aXO:b<g.length:=(U.1 avZ).1;have aZf:mb<g.length:=(U.1 l).1;have O:g.length∉z:=fun e=>ai _ (p1.fzb _ e)
  have aV:∀k,g.length+k∉z:=fun k e=>by have:=p1.fzb _ e;simp only at this;omega
  have aQ:¬b=g.length:=by omega
  have aR:∀k,¬b=g.length+k:=fun k=>by omega
  have aT:∀k,b<g.length+k:=fun k=>by omega
  simp only[k2,k3,k1,p3,ab,getD_map,an,anM,aXO,avZ,aoF,RN,F,H,S];refine aF9 (opD t.op) ((ao9 t.op (sp.getD i default)).map Fr.dv) (by simp[Mem.box,Y aZf,l]) (au3 _) (az2 _ _) ?_;cases hg:ao9 t.op (sp.getD i default)with
  |none=>
   rw[hg,aJ,ax]at Z;simp only[ay4,aH,bc,aJ,anZ,aoo,O,ao3,RN,H,S];refine⟨by kernel_rfl,avl ⟨rfl,rfl⟩ ⟨by simp only[doS,<-aU7,Z,bl];rfl,⟨_,rfl,rfl,rfl⟩,?_⟩⟩;exact p2.trans (p1.ext (xf:=[]) (by simp)).2
  |some f0=>
   rw[hg,aK,aP]at Z;simp only[ay4,ay,aO,aK,anZ,aoo,O,ao3,aoa,RN,H,S];refine⟨by kernel_rfl,ayp ?_⟩;simp only[k6];obtain⟨x1,x2⟩:=p1.ext (xs:=[some [pI f0.n,pI f0.d]]) (xf:=[]) (by simp);exact anT (len:=sp.length) (i:=i) _ k1 rfl ⟨x1,p2.trans x2,p3,Z⟩
 ·obtain⟨p1,p2,p3,Z⟩:=aj
  rw[bB,be]at Z;obtain⟨g,z,j⟩:=y;have avZ:=p1.box;rw[apK]at avZ;have l:=p1.map;have aZn:=p1.r0;simp only at avZ l p3 aZn;have aXO:b<g.length:=(U.1 avZ).1;have aZf:mb<g.length:=(U.1 l).1;have O:g.length∉z:=fun e=>ai _ (p1.fzb _ e)
  have aV:∀k,g.length+k∉z:=fun k e=>by have:=p1.fzb _ e;simp only at this;omega
  have aQ:¬b=g.length:=by omega
  have aR:∀k,¬b=g.length+k:=fun k=>by omega
  have aT:∀k,b<g.length+k:=fun k=>by omega
  have aD:0<=c.link/\c.link.toNat<t.pc.links.length:=by
   simp only[Pc.ayS,ap,inR,decide_eq_true_eq]at hc;omega
  obtain⟨j0,L⟩:=aD;obtain⟨f,x⟩:∃f,f=(t.pc.links.getD c.link.toNat default).pr:=⟨_,rfl⟩
  simp only[bo,aXO,avZ,aoF,anZ,aoo,V,O,aZn,j0,L,ab,getD_map,asA,<-x,RN,F,H,I,N,S];obtain⟨x1,x2⟩:=p1.ext (xs:=[some [pI f.a,pI f.b]]) (xf:=[g.length]) (by simp);obtain⟨x3,x4⟩:=x1.rows (xs:=[some ⟨1,[],0,0⟩]);have x5:=(p2.trans x2).trans x4;have E:∀k,kOf cst=some k->k≠j.length:=fun k hk e=>by
   rcases p1.stk with⟨rfl,_⟩|⟨k',_,_,rfl,q,_⟩
   ·cases hk
   ·cases hk
    have:=(U.1 q).1;simp only at this;omega
  have aX4:∀k,kOf cse=some k->k≠j.length:=fun k hk e=>by
   rcases p1.set with⟨rfl,_⟩|⟨k',_,_,rfl,q,_⟩
   ·cases hk
   ·cases hk
    have:=(U.1 q).1;simp only at this;omega
  have aZ7:a+5<j.length:=(U.1 p1.r5).1;refine asb (Q:=aUA s a b mb cst cse t bs fz ar j.length f.a c.pr.a (fun _ _=>True) c f (ash t.aoN [] f.a c.pr.a)) (fun e st K=> ?_) ?_
  ·cases e with
   |normal=>
    obtain⟨s1,r,aIV,ver,sn,y,ex,G,rfl,y1,y2,y3,y4,y5,y6,y7,y8⟩:=K;have D:=aID G;have bd:=ht.st;have a1j:=y5;(try simp only[RN,F,H,S]);refine asb (Q:=aRA s a b mb cse t bs fz ar j.length c (ash s1 r f.b c.pr.b)) (fun e st K=> ?_) ?_
    ·cases e with
     |normal=>
      obtain⟨s2,aw,a1a,aN2,bf,a1b,M2,X,rfl,l0,l8,a4,P,w2,w3,w4,w5,w6,w7,w8⟩:=K;have ak:=aID X;obtain⟨ac,az,u⟩:=M2;have aKv:=P.box;rw[apK]at aKv;have aZk:=P.nb;simp only at aKv aZk w3;have aZ9:b<ac.length:=(U.1 aKv).1;obtain⟨o1,o2,o3⟩:=az1 P.stk;have a7:a+5<u.length:=(U.1 P.r5).1;simp only[l0,l8,a4,aKv,RN,F,H,S];refine aTL (ys:=aw.map anF) P.stk (by simp[auD,Mem.row,w3]) aqU (by have:=D;have:=ak;simp at*;omega) fun k ver st ar' e1 e2 e3 e4 e5=> ?_
      have aL:st=1\/s2++aw=[]:=by
       rcases w8 with hp|⟨k8,v8,aA,h8⟩
       ·subst hp
        rcases e1 with⟨_,_,e1⟩|⟨_,_,_,e1⟩
        ·exact(e1 rfl).imp id fun e=>by simpa using e
        ·exact .inr (by simpa using e1)
       ·rcases e1 with⟨e0,⟨v0,e1⟩,_⟩|⟨e1,_⟩
        ·rw[aA]at e0
         cases e0;simp only at h8;rw[e1]at h8;simp at h8;exact .inl h8.2
        ·rw[aA]at e1;cases e1
      obtain⟨g5,g6⟩:=P.aGa (k:=k) (ver:=ver) (st:=st) (xs:=s2++aw) (ar':=ar') (by
        rcases e1 with⟨e1,_⟩|⟨_,e1,_⟩
        ·exact P.kst k e1
        ·omega) (fun e=>by
        rcases e1 with⟨e1,_⟩|⟨_,e1,_⟩
        ·exact P.dif k e1 e
        ·rcases P.set with⟨rfl,_⟩|⟨k',_,_,rfl,q,_⟩
         ·cases e
         ·cases e
          have:=(U.1 q).1;simp only at this;omega) (by rw[e2];simp) e3 e4 ⟨e5,aL⟩
      have am:=g5.r0;simp only at am;simp only[aKv,aZ9,aZk,aU1,aG,aor,aox,am,j0,L,ab,RN,H,S];have aI:(t.pc.links.map Lk.dv).set c.link.toNat (setCells ((t.pc.links.map Lk.dv).getD c.link.toNat default) 1 [dI c.pr.a,dI c.pr.b])=(t.pc.changed c).links.map Lk.dv:=by
       rw[Pc.changed,bw,getD_map L];rfl
      refine awx (ds:=[dI c.pr.a,dI c.pr.b]) am rfl (by decide) rfl rfl (by rw[getD_map L];exact aq 3) ?_;rw[aI];obtain⟨g7,g8⟩:=g5.aZG (t.pc.changed c) rfl;exact⟨_,_,_,by simp only[doS,hc,<-aU7,Z,aX,if_true,<-x,G,X],g7,((w2.trans g6).trans g8)⟩
     |panic d=>
      obtain⟨h1,h2,h3⟩:=K;(try simp only[RN]);refine⟨?_,h2,h3⟩;simp only[doS,<-x,G,h1]
      split<;>rfl
     |ret=>exact K.elim
     |exit id=>exact K.elim
    ·by_cases m:f.b=c.pr.b
     ·have v:(f.b !=c.pr.b)=false:=by simp[m]
      simp only[v,RN,F];refine⟨s1,r,aIV,ver,sn,_,y,by rw[ash,if_pos m],rfl,rfl,rfl,rfl,y1,y2,y3,y4,y5,y6,y7,y8⟩
     ·have v:(f.b !=c.pr.b)=true:=by simp[m]
      simp only[v,RN,F,H,N,S];refine aGY (SC.mono (aOS R y1 c.pr.b (by simp only;omega)) ?_);rintro p M2 (⟨q1,rfl,rfl⟩|⟨q1,rfl,atH,q2,q3,q4,⟨kk,kv,rfl,q8⟩,q5⟩)
      ·simp only[ao3,RN]
       refine⟨by kernel_rfl,avl ⟨rfl,rfl⟩ ?_⟩;refine⟨by rw[ash,if_neg m,if_neg q1],⟨_,rfl,rfl,rfl⟩,y2⟩
      ·obtain⟨ac,az,u⟩:=M2
       simp only[ao3,RN];refine⟨by kernel_rfl,ayp ?_⟩;have o:u[j.length]?=some (some ⟨1,r.map anF,ver,sn⟩):=by
        have:=q5 j.length y5;simp only at this;rw[this];exact y3
       have B:j.length<u.length:=(U.1 o).1;simp only[o,DV.strip,aqi,fits_int,forall_eq,y4,ab,RN,S];obtain⟨q6,q7⟩:=q2.other (k:=j.length) (A:=⟨1,(r++ [f.b]).map anF,ver+1,sn⟩) (by omega) (by rw[q4];exact y5) y7;have a2:r.length<=1073741823:=by have:=D.2;simp at this;omega
       have aW:r.map anF++ [dI f.b]=(r++ [f.b]).map anF:=by simp[anF]
       rw[aW];refine⟨by simp,a2,s1.erase c.pr.b,r++ [f.b], .tsl kk kv 0,ver+1,sn,_,_,by rw[ash,if_neg m,if_pos q1],rfl,rfl,rfl,rfl,q6,(y2.trans q3).trans q7,by simp[B],y4,by rw[q4];exact y5,by simp;exact B,y7, .inr ⟨kk,kv,rfl,?_⟩⟩;simp only;rw[ae (fun e=>y5 (by rw[<-q4,e];rfl))];exact q8
   |panic d=>
    obtain⟨h1,h2,h3⟩:=K;(try simp only[RN]);refine⟨?_,h2,h3⟩;simp only[doS,<-x,h1]
    split<;>rfl
   |ret=>exact K.elim
   |exit id=>exact K.elim
  ·by_cases m:f.a=c.pr.a
   ·have v:(f.a !=c.pr.a)=false:=by simp[m]
    simp only[v,RN,F];refine⟨t.aoN,[],cst,0,0,_,[_],by rw[ash,if_pos m],rfl,x3,x5,by simp,by decide,fun e=>E _ e rfl,by simp,fun e=>aX4 _ e rfl, .inl rfl⟩
   ·have v:(f.a !=c.pr.a)=true:=by simp[m]
    simp only[v,RN,F,H,N,S];refine aGY (SC.mono (aOS R x3 c.pr.a (by have:=ht.st;omega)) ?_);rintro p M2 (⟨q1,rfl,rfl⟩|⟨q1,rfl,atH,q2,q3,q4,⟨kk,kv,rfl,q8⟩,q5⟩)
    ·simp only[ao3,RN]
     refine⟨by kernel_rfl,avl ⟨rfl,rfl⟩ ?_⟩;refine⟨by rw[ash,if_neg m,if_neg q1],⟨_,rfl,rfl,rfl⟩,x5⟩
    ·obtain⟨ac,az,u⟩:=M2
     simp only[ao3,RN];refine⟨by kernel_rfl,ayp ?_⟩;have o:u[j.length]?=some (some ⟨1,[],0,0⟩):=by
      have:=q5 j.length (fun e=>E _ e rfl);simp only at this;rw[this];simp
     simp only[o,DV.strip,aqi,fits_int,forall_eq,RN,J,S];have B:j.length<u.length:=(U.1 o).1;obtain⟨q6,q7⟩:=q2.other (k:=j.length) (A:=⟨1,[dI f.a],1,0⟩) (by omega) (fun e=>E _ (q4▸e) rfl) (fun e=>aX4 _ e rfl);refine⟨by simp,t.aoN.erase c.pr.a,[f.a], .tsl kk kv 0,1,0,_,[],by rw[ash,if_neg m,if_pos q1];rfl,rfl,q6,(x5.trans q3).trans q7,by simp[B,anF],by decide,fun e=>E _ (q4▸e) rfl,by simp;exact B,fun e=>aX4 _ e rfl, .inr ⟨kk,kv,rfl,by simp only;rw[ae (fun e=>E _ (q4▸rfl) e.symm)];exact q8⟩⟩
def aZW (s:Su)(t:Sp):De->Prop
 | .change c=>t.pc.ayS c=true
 | .serve h c=>(0<=h/\h.toNat<t.pc.hands.length)/\0<=c/\c<=1000000000
 | .set d=>1<=d/\d.toNat<=s.days.length
 | _=>True
def aKh (e:aQ5){s:Su}{a b mb:Nat}{cst cse:PV}{t:Sp}{M:Mem}(h:ape s a b mb cst cse t M)(g:aIK s t)(x:De)(hx:aZW s t x):
  SC C 113 [.ptr b 0, .d x.dv] M (fun p M'=>∃t' atH axb,doS s t x=some t'/\ape s a b mb atH axb t' M'/\FrS a b mb M M') (fun d M'=>doS s t x=none/\aAN d/\FrS a b mb M M'):=by
 cases x with
 |cut n=>
  refine SC.mono (aXh h g n) fun p M' l=> ?_
  obtain⟨t',atH,h1,h2,i⟩:=l;exact⟨t',atH,cse,h1,h2,i⟩
 |change c=>exact aHU e h g c hx
 |order n f=>exact aRN h n f
 |serve n c=>
  obtain⟨⟨h1,h2⟩,i⟩:=hx;obtain⟨k,rfl⟩:=Int.eq_ofNat_of_zero_le h1;exact aRO h g k (by simpa using h2) c i
 |set d=>
  obtain⟨h1,h2⟩:=hx;obtain⟨k,j⟩:∃k:Nat,d=((k+1:Nat):Int):=⟨(d - 1).toNat,by omega⟩
  subst j;exact aXi h g k (by omega)
 |strike n=>exact aPG h n
def aJU (p:Pc)(c:Chg)(k:p.ok=true)(l:inR c.link 0 (p.links.length - 1)=true)(hc:c.pr.ok=true)(m:c.pr=(p.links.getD c.link.toNat default).pr):Pure C 208 [p.dv,c.dv] (.d (.tup [.slice true [],dI 2])) []:=by
 have g:=Pc.good k;have i:0<=c.link/\c.link<=(p.links.length:Int) - 1:=by simpa[inR]using l
 have h:c.link.toNat<p.links.length:=by have:=g.l1;omega
 have o:=g.l2;have n:=g.h2;have j:=auK p (by omega) (by omega);have f:=aJG c.pr;have e1:bJ .i64 ((p.links.length:Int) - 1)=(p.links.length:Int) - 1:=anI (by omega);have e:((c.pr.a==(p.links.getD c.link.toNat default).pr.a)&&(c.pr.b==(p.links.getD c.link.toNat default).pr.b))=true:=by rw[aOz];simpa using m
 refine am6 azt aoj ?_;simp only[aot,ap9,aqA]at j f⊢;simp only[azt,aoj,RN,F,H,S];refine anE j ?_;simp only[k,ab,e1,RN,F,H,S];refine anE (azJ _ _ _) ?_;simp only[l,RN,F,H,S];refine anE f ?_;simp only[hc,i.1,h,getD_map,asA,ab,aFE,e,aOb,RN,F,H,S]
def av6 (n:Int):DV:= .tup [.slice true [],dI n]
def aOu {w w':World}{O O':Nat->Prop}{v:Value}{n:Int}(h:aof w O v (av6 n)):aof w' O' v (av6 n):=by
 unfold av6 at*;cases h with|tup h=>
 generalize a:Array.toList _=vs at h;cases h with|cons h1 h2=>
 cases h2 with|cons d e=>
 cases e;cases d;refine .tup ?_;rw[a];refine .cons ?_ (.cons (.int _ _) .nil);cases h1 with
 |empty b=>exact .empty b
 |slice f i c j g b hh=>
  simp only[au]at c;subst c;exact .empty b
variable{ds ds':List DV}
def aYy {n:Int}(h:Pure C f ds' (.d (av6 n)) [])(k:aos M args=some ds)(l:ds.map DV.strip=ds')(p:K (.d (av6 n)) M):SC C f args M K KP:=by
 subst l;intro X w E c a o;have i:=ard a args;have hd:=(atl a o k (fun q r=>r)).strip;refine(h (away X (M.frz args) E) w c a.glob (fun b j=> .inl (a.apF b j)) (fun b j=>i.auS j) hd).mono fun e z l=> ?_
 obtain⟨v,x,rfl,g,m,s⟩:=l;obtain⟨t,u,y⟩:=azI a (axF a g m rfl) m (by simp);exact⟨_,_,_,(by simpa using p),t,u, .d (aOu s.toD)⟩
def aPe {base:Nat}{n:Int}(h:Pure C f ds' (.d (av6 n)) [])(a:aos M args=some ds)(c:ds.map DV.strip=ds')(b:K (.d (av6 n)) M):anG C base (.aBp f) args M K KP:=
 ⟨_,_,aYy h a c ⟨rfl,rfl⟩,b⟩
variable{s:Su}
def aUF {a mb:Nat}{cst cse:PV}{t:Sp}(h:ape s a b mb cst cse t M)(D:aIK s t)(c:Chg)(B:inR c.link 0 (t.pc.links.length - 1)=true)(hc:c.pr.ok=true)(w:c.pr=(t.pc.links.getD c.link.toNat default).pr):
  SC C 113 [.ptr b 0, .d (De.change c).dv] M (fun p M'=>∃t' atH axb,doS s t (.change c)=some t'/\ape s a b mb atH axb t' M'/\FrS a b mb M M') (fun d M'=>doS s t (.change c)=none/\aAN d/\FrS a b mb M M'):=by
 have u:t.pc.ayS c=false:=by simp[Pc.ayS,w]
 obtain⟨bs,fz,ar⟩:=M;have f:=h.box;rw[apK]at f;have i:=h.r0;have j:=h.r1;simp only at f i j;have o:b<bs.length:=(U.1 f).1;have g:=(De.one (.change c)).1;have q:=(De.one (.change c)).2;have E:(De.change c).dv= .iface T.aoh (.agg [dI c.link,dI c.pr.a,dI c.pr.b]):=rfl;rw[E]at g q⊢;have A:bs.length∉fz:=fun e=>ai _ (h.fzb _ e)
 have r:∀k,bs.length+k∉fz:=fun k e=>by have:=h.fzb _ e;simp only at this;omega
 have y:¬b=bs.length:=by omega
 have z:∀k,¬b=bs.length+k:=fun k=>by omega
 have m:∀k,b<bs.length+k:=fun k=>by omega
 have v:¬bs.length+1=bs.length:=by omega
 have x:(T.aoh==T.aoZ)=false:=by decide
 have l:=aJU t.pc c D.pc B hc w;rw[aot,ap9]at l;refine anJ an1 apc ?_;simp only[an1,apc,g,arB,ao4 x,o,f,aoF,anZ,aoo,ao,V,av,r,m,v,an6,aoq,RN,F,H,S];refine aPe (n:=2) l (asU (d:= .agg [sF (t.pc.links.map Lk.dv),sF (t.pc.hands.map anF)]) (by simp[datum,aoi,aoO,Mem.row,i,j])) rfl ?_;have G:((2:Int)==0)=false:=rfl;simp only[av6,G,ao3,RN];refine⟨by kernel_rfl,avl ⟨rfl,rfl⟩ ⟨by simp[doS,u],⟨_,rfl,rfl,rfl⟩,?_⟩⟩;exact(h.ext (xf:=[bs.length+1,bs.length]) (by simp)).2
def aqG (s:Su)(t:Sp):De->Prop
 | .change c=>inR c.link 0 (t.pc.links.length - 1)=true/\c.pr.ok=true
 | .serve h c=>(0<=h/\h.toNat<t.pc.hands.length)/\0<=c/\c<=1000000000
 | .set d=>1<=d/\d.toNat<=s.days.length
 | _=>True
def aRM (e:aQ5){s:Su}{a b mb:Nat}{cst cse:PV}{t:Sp}{M:Mem}(h:ape s a b mb cst cse t M)(g:aIK s t)(x:De)(hx:aqG s t x):
  SC C 113 [.ptr b 0, .d x.dv] M (fun p M'=>∃t' atH axb,doS s t x=some t'/\ape s a b mb atH axb t' M'/\FrS a b mb M M') (fun d M'=>doS s t x=none/\aAN d/\FrS a b mb M M'):=by
 cases x with
 |change c=>
  obtain⟨h1,h2⟩:=hx
  by_cases i:c.pr=(t.pc.links.getD c.link.toNat default).pr
  ·exact aUF h g c h1 h2 i
  ·refine aHU e h g c ?_
   simp only[Pc.ayS,g.pc,h1,h2,decide_eq_false i,aX,Bool.not_false]
 |cut n=>exact aKh e h g _ trivial
 |order n f=>exact aKh e h g _ trivial
 |serve n c=>exact aKh e h g _ hx
 |set d=>exact aKh e h g _ hx
 |strike n=>exact aKh e h g _ trivial
def aDR {l:List DV}:PV.cells (.d (.anY l))=[.d (.anY l)]:=rfl
def apg (s:Su)(ce cs:PV):List PV:=[.d (.anY s.cs), .d (sF (s.days.map awJ)),ce,cs]
def aUg (s:Su)(hs:s.Small)(bs:List (Option (List PV)))(fz:List Nat)(ar:List (Option Arr))(KP:DV->Mem->Prop)(a:∀i∈fz,i<bs.length):
  SC C 36 [.d s.dv] ⟨bs,fz,ar⟩ (fun p M'=>(s.ok=false/\p= .d (.tup [.nilPtr,dI 2]))\/(s.ok=true/\p= .tup [.ptr (bs.length+2) 0,pI 0]/\∃x1 x2,M'=⟨bs++ [x1,x2,some (apg s (.d (.slice true [])) (.d (.slice true [])))],(bs.length+1)::bs.length::fz,ar⟩)) KP:=by
 have h:=aH7 s hs;rw[aoB]at h;refine anJ awg aw7 ?_;simp only[awg,aw7,aoB,anZ,aoo,V,RN,F,H,S];refine anE h ?_;cases b:s.ok
 ·(try simp only[RN,F])
  exact .inl trivial
 ·(try simp only[RN,F,H,S])
  have g:=aRD s (Su.az7 b);have j:=aUd s b;rw[aoB]at g j;refine anE g ?_;simp only[apA,aqP,ao,V,RN,F,H,S];have l:bs.length∉fz:=fun e=>ai _ (a _ e)
  have c:∀k,bs.length+k∉fz:=fun k e=>by have:=a _ e;omega
  have f:¬bs.length+1=bs.length:=by omega
  simp only[c,f,RN];refine anE j ?_;simp only[apA,aqP,aDR,arl,aoz,RN,F,H,S];exact .inr ⟨_,_,by rw[apg,aq2]⟩
def aLa {ls ms:List Lk}(h:∀i,(ls.getD i default).fr=(ms.getD i default).fr):∀(k a:Nat),aur ls k a=aur ms k a
 |0,_=>rfl
 | _+1,0=>rfl
 |k+1,a+1=>by simp only[aur,h a];rw[aLa h k]
def aU0 {ls ms:List Lk}(h:ls.map (·.fr)=ms.map (·.fr))(i:Nat):(ls.getD i default).fr=(ms.getD i default).fr:=by
 have h1:=congrArg (fun l=>l[i]?) h;simp only[az]at h1;simp only[aD];cases h2:ls[i]?<;>cases a:ms[i]?<;>simp_all
def aF8:∀(ls b pre a:List Lk),ls.map (·.fr)=b.map (·.fr)->pre.map (·.fr)=a.map (·.fr)->(∀l∈b,l.pr.ok=true)->aqo pre ls=true->aqo a b=true
 | [],[],_,_,_,_,_,_=>rfl
 | [],_::_,_,_,h,_,_,_=>by simp at h
 | _::_,[],_,_,h,_,_,_=>by simp at h
 |l::ls,j::b,pre,a,h,f,d,g=>by
  simp only[aF,List.cons.injEq]at h;obtain⟨h1,h2⟩:=h;have c:pre.length=a.length:=by simpa using congrArg bn f
  simp only[aqo,ap,arF]at g⊢;obtain⟨⟨⟨k,_⟩,m⟩,n⟩:=g;refine⟨⟨⟨?_,d j aI⟩,?_⟩,aF8 ls b _ _ h2 (by simp[f,h1]) (fun x i=>d x (aA _ i)) n⟩
  ·rw[<-h1,<-c];exact k
  ·have e:ao1 a l.fr.toNat=ao1 pre l.fr.toNat:=(aLa (aU0 f) _ _).symm
   rw[<-h1]
   simpa only[e]using m
def atj {p:Pc}{c:Chg}(h:p.ok=true)(hc:c.pr.ok=true):(p.changed c).ok=true:=by
 have e:=Pc.good h;have f:(p.changed c).links.length=p.links.length:=by simp[Pc.changed]
 have a:=h;simp only[Pc.ok,ap]at a⊢;obtain⟨⟨⟨g,j⟩,k⟩,l⟩:=a;rw[f];refine⟨⟨⟨g,j⟩,aF8 p.links _ [] [] ?_ rfl (axQ e hc).2.2 k⟩,l⟩;apply aV;intro i;simp only[Pc.changed,az,bt]
 by_cases b:c.link.toNat=i
 ·subst b
  by_cases d:c.link.toNat<p.links.length
  ·simp[d,aD]
  ·simp[bi (Nat.le_of_not_lt d)];omega
 ·simp[b]
structure awD (s:Su) (n:Nat) (t:Sp):Prop where
 ok:s.ok=true
 pc:t.pc.ok=true
 ll:t.pc.links.length=s.pc.links.length
 hh:t.pc.hands=s.pc.hands
 tl:t.tg.length=s.pc.hands.length
 st:t.aoN.length<=n
 se:t.sets.length<=n
 co:0<=t.aqy/\t.aqy<=(n:Int)*1000000000
 sv:∀d∈t.sets,1<=d/\d<=366
def arn (s:Su):s.days.length<=366:=by
 have:=aq7 (s.cal.leap s.year);simp only[Su.days,Su.asM,ab,bu,Su.dur]
 split at this<;>omega
def awD.sp {n:Nat}{t:Sp}(h:awD s n t)(a:n<=1000):aIK s t:=⟨h.ok,h.pc,by rw[h.tl,h.hh],by have:=h.st;omega,by have:=h.se;omega,by have:=h.co;omega⟩
def aqG.same {n:Nat}{t t':Sp}(h:t.pc.links.length=t'.pc.links.length)(hh:t.pc.hands=t'.pc.hands){x:De}(hx:aqG s t x):aqG s t' x:=by
 cases x<;>simp only[aqG,h,hh]at hx⊢<;>exact hx
def aIE {aoN c:List Int}{a b:Int}(h:ash aoN c a b=some (s1,p1)):s1.length+p1.length=aoN.length+c.length:=by
 unfold ash at h
 split at h
 ·cases h;rfl
 ·split at h
  ·rename_i d
   cases h;have:=List.length_erase_of_mem d;have e:=List.length_pos_of_mem d;simp;omega
  ·cases h
def aRL {n:Nat}{t t':Sp}(h:awD s n t){x:De}(hx:aqG s t x)(hd:doS s t x=some t'):awD s (n+1) t':=by
 have r:=h.co;have k:=h.st;have j:=h.se;cases x with
 |cut m=>
  simp only[doS]at hd
  split at hd
  ·cases hd;exact⟨h.ok,h.pc,h.ll,h.hh,h.tl,by simp;omega,by simp only;omega,by simp only;omega,h.sv⟩
  ·cases hd
 |change c=>
  obtain⟨h1,h2⟩:=hx;simp only[doS]at hd
  split at hd
  ·generalize a:ash t.aoN [] _ _=g at hd
   cases g with
   |none=>cases hd
   |some g=>
    obtain⟨s1,p1⟩:=g;simp only at hd;generalize b:ash s1 p1 _ _=i at hd;cases i with
    |none=>cases hd
    |some i=>
     obtain⟨p,l⟩:=i;simp only at hd;cases hd;have e1:=aIE a;have e2:=aIE b;have q:p.length+l.length=t.aoN.length:=by simpa[e1]using e2
     exact⟨h.ok,atj h.pc h2,by simp[Pc.changed,h.ll],h.hh,h.tl,by simp;omega,by simp only;omega,by simp only;omega,h.sv⟩
  ·cases hd
 |order m f=>
  simp only[doS]at hd
  split at hd
  ·cases hd
  ·cases hd;exact⟨h.ok,h.pc,h.ll,h.hh,h.tl,by simp only;omega,by simp only;omega,by simp only;omega,h.sv⟩
 |serve m c=>
  obtain⟨_,h2⟩:=hx;simp only[doS]at hd;generalize ao9 t.op m=o at hd;cases o with
  |none=>cases hd
  |some f=>
   simp only at hd
   split at hd
   ·cases hd;exact⟨h.ok,h.pc,h.ll,h.hh,by simp[h.tl],by simp only;omega,by simp only;omega,by simp only;omega,h.sv⟩
   ·cases hd
 |set d=>
  simp only[doS]at hd
  split at hd
  ·cases hd;exact⟨h.ok,h.pc,h.ll,h.hh,h.tl,by simp only;omega,by simp;omega,by simp only;omega,fun x hm=>by
    rcases am.1 hm with hm|hm
    ·exact h.sv x hm
    ·simp only[aj]at hm
     obtain⟨h1,h2⟩:=hx;have:=arn s;rw[hm];omega⟩
  ·cases hd
 |strike e=>
  simp only[doS]at hd;cases hd;exact⟨h.ok,h.pc,h.ll,h.hh,h.tl,by omega,by omega,by omega,h.sv⟩
structure Dk where
 su:Su
 es:List En
 st:List Bool
 deriving DecidableEq,Inhabited
def aqF:List En->List Bool->Nat->List (Nat×De)
 |x::xs,b::bs,i=>if x.kind≠6/\b=false then(i,x.deed)::aqF xs bs (i+1)else aqF xs bs (i+1)
 | _,_,_=>[]
def Dk.stands (d:Dk):List (Nat×De):=aqF d.es d.st 0
def Su.sp0 (s:Su):Sp:=⟨s.pc,s.tg,[],[],0,[]⟩
def asV (s:Su):List De->Sp->Option Sp
 | [],t=>some t
 |x::l,t=>(doS s t x).bind (asV s l)
def Dk.without (d:Dk)(w:Int):List De:=(d.stands.filter fun p=>decide ((p.1:Int)≠w)).map (·.2)
def Dk.state (d:Dk)(w:Int):Option Sp:=asV d.su (d.without w) d.su.sp0
def En.formed (x:En):Bool:=inR x.kind 1 6&&decide (x.ns.length=apG x.kind)&&x.ns.all fun n=>inR n 0 9999
def Dk.apj (d:Dk):De->Bool
 | .cut n=>anP n
 | .change c=>inR c.link 0 (d.su.pc.links.length - 1)&&c.pr.ok
 | .order h f=>inR h 0 (d.su.pc.hands.length - 1)&&f.ok
 | .serve h _=>inR h 0 (d.su.pc.hands.length - 1)
 | .set n=>inR n 1 d.su.days.length
 | .strike e=>inR e 0 (d.es.length - 1)&&decide ((d.es.getD e.toNat default).kind≠6)
structure Dk.Ok (d:Dk):Prop where
 su:d.su.ok=true
 len:d.es.length=d.st.length
 few:d.es.length<=24
 formed:∀x∈d.es,x.formed=true
 fine:∀x∈d.es,aqG d.su d.su.sp0 x.deed
variable{d:Dk}
def aI2 {x:En}(hx:x.formed=true)(hf:d.apj x.deed=true):aqG d.su d.su.sp0 x.deed:=by
 simp only[En.formed,ap,decide_eq_true_eq,aE]at hx;obtain⟨⟨h1,h2⟩,g⟩:=hx;have k:∀i,i<x.ns.length->0<=x.n i/\x.n i<=9999:=fun i j=>by
  have:=g _ (getD_mem j)
  simpa[inR,En.n]using this
 unfold En.deed at hf⊢
 split
 ·trivial
 ·split
  ·rename_i a b
   rw[if_neg a,if_pos b]at hf
   simpa[Dk.apj,aqG,Su.sp0]using hf
  ·split
   ·trivial
   ·split
    ·rename_i a b f c
     rw[if_neg a,if_neg b,if_neg f,if_pos c]at hf;have e:x.ns.length=2:=by rw[h2,apG,c];rfl
     have l:=k 1 (by omega);simp only[Dk.apj,inR,ap,decide_eq_true_eq]at hf;refine⟨⟨by omega,by simp only[Su.sp0];omega⟩,by omega,by omega⟩
    ·split
     ·rename_i a b f c h
      rw[if_neg a,if_neg b,if_neg f,if_neg c,if_pos h]at hf;simp only[Dk.apj,inR,ap,decide_eq_true_eq]at hf;exact⟨by omega,by omega⟩
     ·trivial
def avg:∀(es:List En) (st:List Bool) (i:Nat) (p:Nat×De),p∈aqF es st i->∃x∈es,p.2=x.deed
 | [],_,_,_,h=>by simp[aqF]at h
 | _::_,[],_,_,h=>by simp[aqF]at h
 |x::xs,b::bs,i,p,h=>by
  simp only[aqF]at h
  split at h
  ·rcases aR.1 h with h|h
   ·exact⟨x,aI,by rw[h]⟩
   ·obtain⟨y,a,e⟩:=avg xs bs _ p h
    exact⟨y,aA _ a,e⟩
  ·obtain⟨y,a,e⟩:=avg xs bs _ p h
   exact⟨y,aA _ a,e⟩
def avf:∀(es:List En) (st:List Bool) (i:Nat),(aqF es st i).length<=es.length
 | [],_,_=>by simp[aqF]
 | _::_,[],_=>by simp[aqF]
 |x::xs,b::bs,i=>by
  have:=avf xs bs (i+1);simp only[aqF]
  split<;>simp<;>omega
def aNR (h:s.ok=true):awD s 0 s.sp0:=by
 obtain⟨h1,h2,_⟩:=Su.facts h;exact⟨h,h1,rfl,rfl,h2,by simp[Su.sp0],by simp[Su.sp0],by simp[Su.sp0],by simp[Su.sp0]⟩
def aFD {s:Su}:∀(l:List De) (n:Nat) (t t':Sp),awD s n t->(∀x∈l,aqG s s.sp0 x)->asV s l t=some t'->awD s (n+l.length) t'
 | [],n,t,t',h,_,hd=>by cases hd;exact h
 |x::l,n,t,t',h,a,hd=>by
  simp only[asV]at hd;cases h1:doS s t x with
  |none=>rw[h1]at hd;cases hd
  |some t1=>
   rw[h1]at hd;have:=aFD l (n+1) t1 t' (aRL h (aqG.same (n:=n) h.ll.symm h.hh.symm (a x aI)) h1) (fun y b=>a y (aA _ b)) hd
   simpa[av,Nat.add_comm 1]using this
def Dk.Ok.aJO (h:d.Ok)(w:Int):∀x∈d.without w,aqG d.su d.su.sp0 x:=by
 intro x a;simp only[Dk.without,aB,bD]at a;obtain⟨p,⟨b,_⟩,rfl⟩:=a;obtain⟨y,c,e⟩:=avg _ _ _ _ b;rw[e];exact h.fine y c
def Dk.aLY (d:Dk)(w:Int):(d.without w).length<=d.es.length:=by
 simp only[Dk.without,ab];exact ah (bj _ _) (avf _ _ _)
def Dk.Ok.aCT (h:d.Ok){w:Int}{t:Sp}(a:d.state w=some t):awD d.su 24 t:=by
 have h1:=aFD _ 0 _ t (aNR h.su) (h.aJO w) a;have h2:=d.aLY w;have b:=h.few;have c:=h1.co;exact⟨h1.ok,h1.pc,h1.ll,h1.hh,h1.tl,by have:=h1.st;omega,by have:=h1.se;omega,by omega,h1.sv⟩
def slN (sz:Nat)(W:Bool)(c:PV)(xs:List DV)(ar:List (Option Arr)):Prop:=
 (c= .d (.slice true [])/\xs=[])\/∃k ver st,c= .tsl k ver 0/\ar[k]?=some (some ⟨sz,xs,ver,st⟩)/\st≠2/\(W=true->st=1\/xs=[])
variable{sz:Nat}
def aJF {K:Int->Prop}(h:slN sz W c xs ar):asc c ⟨bs,fz,ar⟩ K=K xs.length:=by
 rcases h with⟨rfl,rfl⟩|⟨k,ver,st,rfl,a,_⟩
 ·rfl
 ·simp[asc,Mem.row,a]
def aOO (h:slN sz W c xs ar):PV.one c=true/\PV.cells c=[c]/\c.asO=false:=by
 rcases h with⟨rfl,rfl⟩|⟨k,ver,st,rfl,_⟩<;>exact⟨rfl,rfl,rfl⟩
def auj {ar':List (Option Arr)}(h:slN sz W c xs ar)(hk:∀k A,kOf c=some k->ar[k]?=some (some A)->ar'[k]?=some (some A)):slN sz W c xs ar':=by
 rcases h with⟨rfl,rfl⟩|⟨k,ver,st,rfl,h1,h2⟩
 ·exact .inl ⟨rfl,rfl⟩
 ·exact .inr ⟨k,ver,st,rfl,hk _ _ rfl h1,h2⟩
def aQL (h:slN sz W c xs ar):∃ex,datum ⟨bs,fz,ar⟩ c=some (.slice ex xs):=by
 rcases h with⟨rfl,rfl⟩|⟨k,ver,st,rfl,h,_⟩
 ·exact⟨true,rfl⟩
 ·exact⟨false,by simp[datum,Mem.row,h]⟩
def az6 (h:slN sz W c xs ar)(hx:xs≠[]):∃k ver st,c= .tsl k ver 0/\ar[k]?=some (some ⟨sz,xs,ver,st⟩)/\st≠2/\(W=true->st=1):=by
 rcases h with⟨_,rfl⟩|⟨k,ver,st,rfl,h,h2,a⟩
 ·exact absurd rfl hx
 ·exact⟨k,ver,st,rfl,h,h2,fun b=>(a b).resolve_right hx⟩
structure DkRd (D:Dk) (d:Nat) (ce cs:PV) (M:Mem):Prop where
 box:M.boxes[d]?=some (some (apg D.su ce cs))
 ent:slN 2 false ce (D.es.map En.dv) M.anK
 str:slN 1 true cs (D.st.map .bool) M.anK
structure aqR (D:Dk) (d:Nat) (ce cs:PV) (M:Mem):Prop extends DkRd D d ce cs M where
 dif:∀k,kOf ce=some k->kOf cs≠some k
 nb:d∉M.fz
 fzb:FzB M
def asu (p:Nat×De):List DV:=[dI p.1,p.2.dv]
def aCQ (ce cs:PV)(k:Nat):Prop:=kOf ce=some k\/kOf cs=some k
variable{D:Dk}{M':Mem}
def DkRd.kept {d n:Nat}{ce cs:PV}(h:DkRd D d ce cs M)(hk:Kept n (·=d) (aCQ ce cs) M M'):DkRd D d ce cs M':=
 ⟨(hk.box d (.inr rfl) (U.1 h.box).1).trans h.box,auj h.ent fun k A h1 h2=>(hk.row k (.inl h1)).trans h2,auj h.str fun k A h1 h2=>(hk.row k (.inr h1)).trans h2⟩
def DkRd.ext {d:Nat}{ce cs:PV}{xs:List (Option (List PV))}{a:List Nat}(h:DkRd D d ce cs ⟨bs,fz,ar⟩):DkRd D d ce cs ⟨bs++xs,a,ar⟩:=
 ⟨by have:=h.box;simp only at this⊢;rw[Y (U.1 this).1];exact this,h.ent,h.str⟩
def DkRd.moved {d n:Nat}{ce cs:PV}(h:DkRd D d ce cs M)(hd:d<n)(a:Moved n (fun _=>False) M M'):DkRd D d ce cs M':=
 ⟨(a.box d hd id).trans h.box,by rw[a.anK];exact h.ent,by rw[a.anK];exact h.str⟩
def aov (D:Dk)(i:Nat):List (List DV):=(aqF (D.es.drop i) (D.st.drop i) i).map asu
def azL (hl:D.es.length=D.st.length){i:Nat}(hi:i<D.es.length):
  aov D i=if(D.es.getD i default).kind≠6/\D.st.getD i default=false then asu (i,(D.es.getD i default).deed)::aov D (i+1)else aov D (i+1):=by
 rw[aov,drop_cons hi,drop_cons (by omega:i<D.st.length),aqF]
 split<;>rfl
def aqz {b:Bool}:DV.cells (.bool b)=[.bool b]:=rfl
def aLM {d:Nat}{ce cs:PV}(hl:D.es.length=D.st.length)(aj:D.es.length<=1000)(hf:∀x∈D.es,apG x.kind<=x.ns.length):
  aHE C 163 [.ptr d 0] [] (aov D 0) (·=d) no (aCQ ce cs) (DkRd D d ce cs):=by
 rintro⟨bs,fz,ar⟩ b n R stop K KP ak am hn O E Z aq9 h0 G M;simp only at hn O;have l:=E.box;rw[apg]at l;simp only at l;have ap:d<bs.length:=(U.1 l).1;refine anJ apT apc ?_;simp only[apT,apc,l,RN,F,H,S];rw[aJF E.ent];simp only[ab];refine axE (fun m s=>∃(i:Nat) (g:List (List DV)) (L:Mem),m=D.es.length - i/\i<=D.es.length/\s=⟨[(0, .ptr d 0),(1, .asz b),(9,ce),(10,pI D.es.length),(11,pI i)],L⟩/\n<=L.boxes.length/\FzB L/\DkRd D d ce cs L/\aov D 0=g++aov D i/\R g L)
  D.es.length ⟨0,[],_,rfl,aS _,rfl,hn,O,E,rfl,h0⟩ ?_
 rintro m s ⟨i,g,⟨c,r,y⟩,rfl,hi,rfl,t,v,o,f,hR⟩;simp only at t;have avZ:=o.box;rw[apg]at avZ;simp only at avZ;have aY7:d<c.length:=(U.1 avZ).1;have ac:c.length∉r:=fun e=>ai _ (v _ e)
 by_cases h:i<D.es.length
 case neg=>
  have X:i=D.es.length:=by omega
  subst X;simp only[bo,RN,F];refine M _ _ t ?_;rw[f];have:aov D D.es.length=[]:=by simp[aov,aqF]
  rw[this,bf];exact hR
 obtain⟨k,ver,st,rfl,hk,_⟩:=az6 o.ent (by intro e;simp at e;rw[e]at h;simp at h);obtain⟨k2,aN2,aq,rfl,A,_⟩:=az6 o.str (by intro e;simp at e;rw[e]at hl;simp at hl;rw[hl]at h;simp at h);simp only at hk A;have P:(i:Int)<(D.es.length:Int):=by omega
 have w:i<D.st.length:=by omega
 have j0:(0:Int)<=(i:Int):=by omega
 have w1:bJ .i64 ((i:Int)+1)=((i+1:Nat):Int):=by rw[anI (by omega)];omega
 have a:=azL hl h;obtain⟨x,hx⟩:∃x,x=D.es.getD i default:=⟨_,rfl⟩
 have ah:x∈D.es:=by rw[hx];exact getD_mem h
 have aKw:=aFC x (hf x ah);rw[<-hx]at a;rw[aon]at aKw;have z:R g ⟨c++ [some [pI x.kind, .d (sF (x.ns.map anF))]],c.length::r,y⟩:=
  Z g _ _ (Moved.ext (xf:=[c.length]) (xb:=[_]) t (by simpa using t)) hR
 have q:DkRd D d (.tsl k ver 0) (.tsl k2 aN2 0) ⟨c++ [some [pI x.kind, .d (sF (x.ns.map anF))]],c.length::r,y⟩:=o.ext;have aMY:FzB ⟨c++ [some [pI x.kind, .d (sF (x.ns.map anF))]],c.length::r,y⟩:=by
  intro j hj;simp only[aR]at hj;simp only[V,aw,au]
  rcases hj with rfl|hj
  ·omega
  ·have:=v j hj;simp only at this;omega
 simp only[P,h,j0,hk,an,ab,getD_map,<-hx,aon,ac,anZ,aoo,V,RN,F,H,S]
 by_cases T:x.kind=6
 ·have Q:(x.kind !=6)=false:=by simp[T]
  rw[if_neg (by simp[T])]at a;simp only[Q,w1,RN,F];refine⟨D.es.length - (i+1),_,by omega, .inl rfl,i+1,g,_,rfl,by omega,rfl,by simp;omega,aMY,q,by rw[f,a],z⟩
 have Q:(x.kind !=6)=true:=by simp[T]
 cases u:D.st.getD i default
 case true=>
  rw[if_neg (fun e=>by rw[u]at e;cases e.2)]at a;simp only[Q,avZ,aY7,aoF,A,w,j0,an,ab,getD_map,aqz,u,w1,RN,F,H,S];refine⟨D.es.length - (i+1),_,by omega, .inl rfl,i+1,g,_,rfl,by omega,rfl,by simp;omega,aMY,q,by rw[f,a],z⟩
 rw[if_pos ⟨T,u⟩]at a;simp only[Q,avZ,aY7,aoF,A,w,j0,an,ab,getD_map,aqz,u,RN,F,H,S];refine anE aKw ?_;(try simp only[RN,F,H,I,J,N,S]);refine axe ?_;refine SY.mono (aq9 g (asu (i,x.deed)) (aov D (i+1)) _ (by rw[f,a]) (by simp;omega) z) ?_;rintro p M3 ⟨B,hp⟩
 rcases hp with⟨rfl,W⟩|⟨rfl,ae⟩
 ·simp only[w1,RN,F]
  have Y:=B.len;simp only[V,aw,au]at Y;refine⟨D.es.length - (i+1),_,by omega, .inl rfl,i+1,_,M3,rfl,by omega,rfl,by omega,B.fzb aMY,q.kept B,by rw[f,a,ao];rfl,W⟩
 ·(try simp only[RN,F])
  exact G _ _ ae
end Go.Tel
namespace Go.Proofs
open Go.Shelf Go.RowKit Go.Lib Go.Sort
section
variable {P:Program}{ρ:Ren}
set_option maxRecDepth 1000000 in
def aXf (L:Lays2.n23 P ρ)(blk off cap i:Nat)(d:Array Int)(w:World)(n:Holds (Value.int .i64) w blk off d)(B:d.size<=cap)(hi:i<d.size):
  Calls P (ρ.f 23) #[.slice (some ⟨blk,off,none⟩) d.size cap, .int .i64 i, .int .i64 (i+1:Nat)] w fun e w'=>
   e= .returned (.slice (some ⟨blk,off,none⟩) (d.size - 1) cap)/\∃q,w'=putRow (Value.int .i64) (Sort.ahead w q) blk off (d.toList.take i++d.toList.drop (i+1)++ [0]).toArray:=by
 have mixed:=L.mixed;have t0:=L.t0;have Y:=L.a0;have z0:=L.z0;have v0:=L.v0;have t3:=L.t3;have Z:=L.a3;have z3:=L.z3;have V:=L.v3;have t4:=L.t4;have a4:=L.a4;have z4:=L.z4;have v4:=L.v4;have r:=L.t22;have D:=L.a22;have W:=L.z22;have T:=L.v22;obtain⟨Q,s,N,y,O⟩:=info_parts L.i3;obtain⟨tl,c⟩:∃tl,tl=(d.toList.drop (i+1)).map (Value.int .i64):=⟨_,rfl⟩
 have b:tl.length=d.size - (i+1):=by rw[c];simp
 have C:∀t,t<d.size - (i+1)->tl[t]?=some (Value.int .i64 d[i+1+t]!):=by
  intro t o;rw[c,az,aU,aM,getElem!_pos d (i+1+t) (by omega),Array.getElem?_eq_getElem (by omega)]
  rfl
 have z:∃A:Addr,(if cap=i+1 then some (⟨blk,off,none⟩:Addr)else some ⟨blk,off+(i+1),none⟩)=some A/\Hid (∀t u,tl[t]?=some u->w.drew.cell? (A.add t)=some u):=by
  by_cases h:cap=i+1
  ·refine⟨⟨blk,off,none⟩,by simp[h],fun t u k=> ?_⟩
   have E:tl.length=0:=by rw[b];omega
   rw[List.length_eq_zero_iff.1 E]at k;simp at k
  ·refine⟨⟨blk,off+(i+1),none⟩,by simp[h],fun t u k=> ?_⟩
   have o:t<d.size - (i+1):=by
    have:=(U.1 k).1
    rwa [b]at this
   rw[C t o]at k;rw[Addr.add_lit,show off+(i+1)+t=off+(i+1+t) by omega];exact(n (i+1+t) (by omega)).1.trans k
 obtain⟨A,z,p⟩:=z;have s1:Hid (tl.length=(d.size - (i+1))*1):=by rw[aW];exact b
 have R:Hid (∀u∈tl,u.oneCell'=true):=by
  intro u k;rw[c]at k;obtain⟨x,_,rfl⟩:=aB.1 k
  rfl
 have S:Hid (∀t,t<tl.length->(w.drew.cell? ⟨blk,off+i*1+t,none⟩).isSome=true/\w.drew.frozen? ⟨blk,off+i*1+t,none⟩=false):=by
  intro t o;rw[b]at o;rw[aW,av];exact⟨by show(w.cell? _).isSome=true;rw[(n (i+t) (by omega)).1];rfl,(n (i+t) (by omega)).2⟩
 obtain⟨g,m⟩:∃g,g=w.drew.setCells blk (off+i*1) tl:=⟨_,rfl⟩
 have a:g=putRow (Value.int .i64) (Sort.ahead w 1) blk off (lay d i (d.toList.drop (i+1))):=by
  rw[m,c,aW,<-putRow_setCells (Value.int .i64) (Sort.ahead w 1) blk off _ d i (by simp;omega),putRow_self (Value.int .i64) (Sort.ahead w 1) blk off d (holds_ahead (Value.int .i64) w 1 blk off d n)]
  rfl
 have l:Holds (Value.int .i64) g blk off (lay d i (d.toList.drop (i+1))):=by rw[a];exact holds_putRow (Value.int .i64) _ blk off d _ (holds_ahead (Value.int .i64) w 1 blk off d n) (lay_size _ _ _)
 have G:∀ty,(Builtin.clear_ #[ρ.t 22] ty #[.slice (some ⟨blk,off+(i+(d.size - (i+1))),none⟩) (d.size - (i+(d.size - (i+1)))) (cap - (i+(d.size - (i+1))))]).run P g= .ok (.tuple #[]) (g.setCells blk (off+(i+(d.size - (i+1)))) (bE (d.size - (i+(d.size - (i+1)))) (Value.int .i64 0))):=
  fun ty=>Lib.run_clear_slice g _ _ ty _ r V rfl rfl blk (off+(i+(d.size - (i+1)))) _ _ (by omega) (fun t o=>by rw[show off+(i+(d.size - (i+1)))+t=off+(i+(d.size - (i+1))+t) by omega,(l _ (by rw[lay_size];omega)).1];rfl) (fun t o=>by rw[show off+(i+(d.size - (i+1)))+t=off+(i+(d.size - (i+1))+t) by omega];exact(l _ (by rw[lay_size];omega)).2)
 have X:Aside (g=putRow (Value.int .i64) (Sort.ahead w 1) blk off (lay d i (d.toList.drop (i+1)))):=a;have F:Hid (g=w.drew.setCells blk (off+i*1) tl):=m;have H:i<=cap:=by omega
 have J:i+1<=cap:=by omega
 have v:i<=i+1:=by omega
 have I:i+1<=d.size:=by omega
 generalize K:i+1=j at*;have M:i<j:=by omega
 clear m a l n C c b
 go_enter L.f23,Body2.n23_ntmps ρ
 go_wp2_with fail
 go_region_law_o (refine step_append_room rfl (.tmp 22) (.tmp 25) (ρ.t 22) rfl (ρ.t 3) Q 1 r s y blk off i cap (by simp[Act.eval,Act.put]) A (d.size - j) (cap - j) tl (by simp[Act.eval,Act.put]) s1.out p.out R.out (by omega) S.out ?_;rw[<-F.out])
 go_wp2
 go_ret
 refine⟨by rw[show d.size - 1=i+(d.size - j) by omega];rfl,1,?_⟩;have hd:=delete_arr d i j 0 v I;rw[show j - i=1 by omega]at hd;rw[show([0]:List Int)=bE 1 0 from rfl,<-hd,<-putRow_setCells (Value.int .i64) _ blk off _ _ (i+(d.size - j)) (by rw[lay_size];simp;omega),<-X.out,List.map_replicate,show d.size - (i+(d.size - j))=1 by omega]
end
end Go.Proofs
namespace Go.Am
open Go.Sort Go.RowKit
section
variable {C:Ctx}
def aXg {ρ:Go.Shelf.Ren}(Ly:Go.Proofs.Lays2.n23 C.P ρ){k ver i:Nat}{zs:List Int}{bs:List (Option (List PV))}{fz:List Nat}{ar:List (Option Arr)}{K:PV->Mem->Prop}{KP:DV->Mem->Prop}
  (h:ar[k]?=some (some ⟨1,zs.map (DV.int .i64),ver,1⟩))(hi:i<zs.length)
  (hK:K (.tsl k (ver+1) 0) ⟨bs,fz,ar.set k (some ⟨1,(zs.take i++zs.drop (i+1)).map (DV.int .i64),ver+1,1⟩)⟩):SC C (ρ.f 23) [.tsl k ver 0, .d (.int .i64 i), .d (.int .i64 (i+1:Nat))] ⟨bs,fz,ar⟩ K KP:=by
 intro X w E ah M I;cases I with|cons hr H=>
 cases H with|cons O H=>
 cases H with|cons B H=>
 cases H;cases O with|d O=>
 cases O;cases B with|d B=>
 cases B;cases hr with|tsl m hh=>
 obtain⟨_,u⟩:=hh _ h;obtain⟨aj,s,N⟩:=u rfl;obtain⟨s1,s2,s3,s4⟩:=M.arr k _ h;obtain⟨q,J⟩:=s3 rfl;rw[J]at s;cases s;obtain⟨a,o,e⟩:=q;obtain⟨hX,v,T,z,g3,g4,L⟩:=s4 a o e J;obtain⟨_,N⟩:=N
 rcases N with⟨ac,he,p,r⟩|⟨h0,_⟩
 case inr=>simp at h0;rw[h0]at hi;simp at hi
 cases he;simp only[ab,aW,bz,bF,Nat.zero_add]at g3 L p r⊢;rw[ay0]at L;have g:=ayh L;have hH:Holds (Value.int .i64) w a o zs.toArray:=by
  intro j D;have t:j<zs.length:=by simpa using D
  have u:v[o+j]?=some (.int .i64 zs[j]):=by
   have:=congrArg (fun l=>l[j]?) g;simp only[bq,t,if_true,aU,aM,az,a7 t,ay]at this;exact this
  refine⟨?_,?_⟩
  ·rw[cell_of_row w a (o+j) v T.ty T.fr z,u]
   simp[t]
  ·have m:o+j<v.size:=(Array.getElem?_eq_some_iff.1 u).1
   obtain⟨ty,⟨f1,f2⟩,W⟩:=T;simp only at W z;simp[World.frozen?,z];intro hh;omega
 have ae:a<w.heap.size:=aop z;have c:=Go.Proofs.aXf Ly a o _ i zs.toArray w hH (by simpa using p) (by simpa using hi);simp only[List.size_toArray]at c;refine c.mono ?_;rintro en w' ⟨rfl,n,rfl⟩;generalize Y:zs.take i++zs.drop (i+1)=ss at*;have ai:ss.length+1=zs.length:=by rw[<-Y];simp;omega
 have F:((putCells (Value.int .i64) o (ss++ [0]).toArray v).toList.drop o).take ss.length=ss.map (Value.int .i64):=by
  apply aV;intro j;rw[bq,aU,aM,az]
  by_cases D:j<ss.length
  ·rw[if_pos D]
   have u:o+j<v.size:=by omega
   have R:j<ss.length+1:=by omega
   simp[putCells,u,D,R]
  ·rw[if_neg D,bi (by omega)];rfl
 have G:=awu (A':=⟨1,ss.map (DV.int .i64),ver+1,1⟩) (loc:=some (a,o,e)) (w':=putRow (Value.int .i64) (Go.Sort.ahead w n) a o (ss++ [0]).toArray) M h (by simp) rfl rfl rfl (by simp[putRow,mapBlock,Go.Sort.ahead])
  (fun b ob B V=>by
   have S:b≠a:=by rintro rfl;exact B o e J
   simp[putRow,mapBlock,Go.Sort.ahead,bh,Ne.symm S,V])
  (by simp) (Nat.zero_lt_one) (by intro x hx;obtain⟨y,_,rfl⟩:=aB.1 hx;rfl) (by simp)
  (fun Z o' e' Q=>by
   cases Q;refine⟨.inr ⟨o,e,J⟩,putCells (Value.int .i64) o (ss++ [0]).toArray v,TM.cast (by simp[putCells]) T,?_,by simp;omega,by simp[putCells];omega,?_⟩
   ·simp[putRow,mapBlock,Go.Sort.ahead,bh,z,onCells,TM.cast]
   ·simp only[ab,aW]
    rw[ay0,F];exact aGK ss)
 refine⟨_,_,_,hK,G.1,G.2,?_⟩;refine .tsl (by simpa using(U.1 h).1) fun A I=> ?_
 have m:k<ar.length:=(U.1 h).1;simp only[aL m,Option.some.injEq]at I;subst I;refine⟨aq _,fun _=>⟨some (a,o,e),?_,?_⟩⟩
 ·have:=M.aoc
  simp only at this;simp[this▸m]
 ·have e1:zs.length - 1=(ss.map (DV.int .i64)).length - 0:=by simp;omega
  refine⟨aS _, .inl ⟨_,by rw[e1,Nat.zero_mul,bF],?_,by simpa using r⟩⟩
  show(ss.map (DV.int .i64)).length - 0<=_
  rw[<-e1];omega
end
end Go.Am
namespace Go.Proofs
open Go.Shelf
def Tryz.laysSplit_ren:Go.Shelf.Ren:=⟨fun|146=>219|221=>279|268=>303|138=>304|143=>305|195=>330|197=>331|218=>332|219=>333|260=>348|217=>272|225=>349|224=>350|267=>351|266=>299|314=>356|n=>n,fun|9=>9|31=>181|3=>3|4=>4|0=>0|105=>381|21=>21|5=>5|46=>343|119=>395|139=>398|138=>397|146=>399|51=>370|n=>n,fun|1=>0|3=>2|4=>3|n=>n⟩
def Tryz.laysSplit:Go.Proofs.Lays.n146 Tryz.prog Tryz.laysSplit_ren:={
 mixed:=by kernel_rfl
 f138:=Tryz.func304.trans (congrArg some (by kernel_rfl))
 f143:=Tryz.func305.trans (congrArg some (by kernel_rfl))
 f146:=Tryz.func219.trans (congrArg some (by kernel_rfl))
 f195:=Tryz.func330.trans (congrArg some (by kernel_rfl))
 f197:=Tryz.func331.trans (congrArg some (by kernel_rfl))
 f217:=Tryz.func272.trans (congrArg some (by kernel_rfl))
 f218:=Tryz.func332.trans (congrArg some (by kernel_rfl))
 f219:=Tryz.func333.trans (congrArg some (by kernel_rfl))
 f221:=Tryz.func279.trans (congrArg some (by kernel_rfl))
 f224:=Tryz.func350.trans (congrArg some (by kernel_rfl))
 f225:=Tryz.func349.trans (congrArg some (by kernel_rfl))
 f260:=Tryz.func348.trans (congrArg some (by kernel_rfl))
 f266:=Tryz.func299.trans (congrArg some (by kernel_rfl))
 f267:=Tryz.func351.trans (congrArg some (by kernel_rfl))
 f268:=Tryz.func303.trans (congrArg some (by kernel_rfl))
 f314:=Tryz.func356.trans (congrArg some (by kernel_rfl))
 t0:=Tryz.underlying0
 a0:=Tryz.isAgg0
 z0:=Tryz.sizeOf0
 v0:=Tryz.zeroValue0
 t3:=Tryz.underlying3
 a3:=Tryz.isAgg3
 z3:=Tryz.sizeOf3
 v3:=Tryz.zeroValue3
 t4:=Tryz.underlying4
 a4:=Tryz.isAgg4
 z4:=Tryz.sizeOf4
 v4:=Tryz.zeroValue4
 t5:=Tryz.underlying5
 a5:=Tryz.isAgg5
 z5:=Tryz.sizeOf5
 v5:=Tryz.zeroValue5
 t9:=Tryz.underlying9
 a9:=Tryz.isAgg9
 z9:=Tryz.sizeOf9
 v9:=Tryz.zeroValue9
 t21:=Tryz.underlying21
 a21:=Tryz.isAgg21
 z21:=Tryz.sizeOf21
 v21:=Tryz.zeroValue21
 t31:=Tryz.underlying181
 a31:=Tryz.isAgg181
 z31:=Tryz.sizeOf181
 v31:=Tryz.zeroValue181
 t46:=Tryz.underlying343
 a46:=Tryz.isAgg343
 z46:=Tryz.sizeOf343
 v46:=Tryz.zeroValue343
 t51:=Tryz.underlying370
 a51:=Tryz.isAgg370
 z51:=Tryz.sizeOf370
 v51:=Tryz.zeroValue370
 t105:=Tryz.underlying381
 a105:=Tryz.isAgg381
 z105:=Tryz.sizeOf381
 v105:=Tryz.zeroValue381
 t119:=Tryz.underlying395
 a119:=Tryz.isAgg395
 z119:=Tryz.sizeOf395
 t138:=Tryz.underlying397
 a138:=Tryz.isAgg397
 z138:=Tryz.sizeOf397
 v138:=Tryz.zeroValue397
 t139:=Tryz.underlying398
 a139:=Tryz.isAgg398
 z139:=Tryz.sizeOf398
 v139:=Tryz.zeroValue398
 t146:=Tryz.underlying399
 a146:=Tryz.isAgg399
 z146:=Tryz.sizeOf399
 v146:=Tryz.zeroValue399
 g1:=by kernel_rfl
 g3:=by kernel_rfl
 g4:=by kernel_rfl}
def Tryz.laysItoa_ren:Go.Shelf.Ren:=⟨fun|171=>213|243=>273|246=>300|283=>324|284=>325|285=>326|286=>327|129=>322|317=>344|318=>345|319=>346|320=>347|337=>354|338=>355|n=>n,fun|3=>3|9=>9|2=>2|4=>4|171=>373|0=>0|53=>372|37=>324|5=>5|173=>375|212=>390|51=>370|20=>20|213=>391|46=>343|232=>401|233=>402|n=>n,fun|17=>1|18=>4|19=>5|n=>n⟩
def Tryz.laysItoa:Go.Proofs.LaysM.n171 Tryz.prog Tryz.laysItoa_ren:={
 mixed:=by kernel_rfl
 f129:=Tryz.func322.trans (congrArg some (by kernel_rfl))
 f171:=Tryz.func213.trans (congrArg some (by kernel_rfl))
 f243:=Tryz.func273.trans (congrArg some (by kernel_rfl))
 f246:=Tryz.func300.trans (congrArg some (by kernel_rfl))
 f283:=Tryz.func324.trans (congrArg some (by kernel_rfl))
 f284:=Tryz.func325.trans (congrArg some (by kernel_rfl))
 f285:=Tryz.func326.trans (congrArg some (by kernel_rfl))
 f286:=Tryz.func327.trans (congrArg some (by kernel_rfl))
 f317:=Tryz.func344.trans (congrArg some (by kernel_rfl))
 f318:=Tryz.func345.trans (congrArg some (by kernel_rfl))
 f319:=Tryz.func346.trans (congrArg some (by kernel_rfl))
 f320:=Tryz.func347.trans (congrArg some (by kernel_rfl))
 f337:=Tryz.func354.trans (congrArg some (by kernel_rfl))
 f338:=Tryz.func355.trans (congrArg some (by kernel_rfl))
 t0:=Tryz.underlying0
 a0:=Tryz.isAgg0
 z0:=Tryz.sizeOf0
 v0:=Tryz.zeroValue0
 t2:=Tryz.underlying2
 a2:=Tryz.isAgg2
 z2:=Tryz.sizeOf2
 v2:=Tryz.zeroValue2
 t3:=Tryz.underlying3
 a3:=Tryz.isAgg3
 z3:=Tryz.sizeOf3
 v3:=Tryz.zeroValue3
 t4:=Tryz.underlying4
 a4:=Tryz.isAgg4
 z4:=Tryz.sizeOf4
 v4:=Tryz.zeroValue4
 t5:=Tryz.underlying5
 a5:=Tryz.isAgg5
 z5:=Tryz.sizeOf5
 v5:=Tryz.zeroValue5
 t9:=Tryz.underlying9
 a9:=Tryz.isAgg9
 z9:=Tryz.sizeOf9
 v9:=Tryz.zeroValue9
 t20:=Tryz.underlying20
 a20:=Tryz.isAgg20
 z20:=Tryz.sizeOf20
 v20:=Tryz.zeroValue20
 t37:=Tryz.underlying324
 a37:=Tryz.isAgg324
 z37:=Tryz.sizeOf324
 v37:=Tryz.zeroValue324
 t46:=Tryz.underlying343
 a46:=Tryz.isAgg343
 z46:=Tryz.sizeOf343
 v46:=Tryz.zeroValue343
 t51:=Tryz.underlying370
 a51:=Tryz.isAgg370
 z51:=Tryz.sizeOf370
 v51:=Tryz.zeroValue370
 t53:=Tryz.underlying372
 a53:=Tryz.isAgg372
 z53:=Tryz.sizeOf372
 v53:=Tryz.zeroValue372
 t171:=Tryz.underlying373
 a171:=Tryz.isAgg373
 z171:=Tryz.sizeOf373
 v171:=Tryz.zeroValue373
 t173:=Tryz.underlying375
 a173:=Tryz.isAgg375
 z173:=Tryz.sizeOf375
 v173:=Tryz.zeroValue375
 t212:=Tryz.underlying390
 a212:=Tryz.isAgg390
 z212:=Tryz.sizeOf390
 v212:=Tryz.zeroValue390
 t213:=Tryz.underlying391
 a213:=Tryz.isAgg391
 z213:=Tryz.sizeOf391
 t232:=Tryz.underlying401
 a232:=Tryz.isAgg401
 z232:=Tryz.sizeOf401
 v232:=Tryz.zeroValue401
 t233:=Tryz.underlying402
 a233:=Tryz.isAgg402
 z233:=Tryz.sizeOf402
 v233:=Tryz.zeroValue402
 g17:=by kernel_rfl
 g18:=by kernel_rfl
 g19:=by kernel_rfl
 i0:=by kernel_rfl
 i2:=by kernel_rfl
 i3:=by kernel_rfl
 i4:=by kernel_rfl
 i5:=by kernel_rfl
 i9:=by kernel_rfl
 i20:=by kernel_rfl
 i37:=by kernel_rfl
 i46:=by kernel_rfl
 i51:=by kernel_rfl
 i53:=by kernel_rfl
 i171:=by kernel_rfl
 i173:=by kernel_rfl
 i212:=by kernel_rfl
 i232:=by kernel_rfl
 i233:=by kernel_rfl
 m17:=by kernel_rfl
 m18:=by kernel_rfl
 m19:=by kernel_rfl}
def Tryz.laysJoin_ren:Go.Shelf.Ren:=⟨fun|156=>218|165=>276|166=>277|169=>278|240=>301|241=>302|276=>328|277=>329|n=>n,fun|31=>181|9=>9|3=>3|4=>4|0=>0|20=>20|72=>327|76=>331|70=>325|37=>324|75=>330|127=>352|164=>377|5=>5|80=>196|n=>n,fun|n=>n⟩
def Tryz.laysJoin:Go.Proofs.Lays.n156 Tryz.prog Tryz.laysJoin_ren:={
 mixed:=by kernel_rfl
 f156:=Tryz.func218.trans (congrArg some (by kernel_rfl))
 f165:=Tryz.func276.trans (congrArg some (by kernel_rfl))
 f166:=Tryz.func277.trans (congrArg some (by kernel_rfl))
 f169:=Tryz.func278.trans (congrArg some (by kernel_rfl))
 f240:=Tryz.func301.trans (congrArg some (by kernel_rfl))
 f241:=Tryz.func302.trans (congrArg some (by kernel_rfl))
 f276:=Tryz.func328.trans (congrArg some (by kernel_rfl))
 f277:=Tryz.func329.trans (congrArg some (by kernel_rfl))
 t0:=Tryz.underlying0
 a0:=Tryz.isAgg0
 z0:=Tryz.sizeOf0
 v0:=Tryz.zeroValue0
 t3:=Tryz.underlying3
 a3:=Tryz.isAgg3
 z3:=Tryz.sizeOf3
 v3:=Tryz.zeroValue3
 t4:=Tryz.underlying4
 a4:=Tryz.isAgg4
 z4:=Tryz.sizeOf4
 v4:=Tryz.zeroValue4
 t9:=Tryz.underlying9
 a9:=Tryz.isAgg9
 z9:=Tryz.sizeOf9
 v9:=Tryz.zeroValue9
 t20:=Tryz.underlying20
 a20:=Tryz.isAgg20
 z20:=Tryz.sizeOf20
 v20:=Tryz.zeroValue20
 t31:=Tryz.underlying181
 a31:=Tryz.isAgg181
 z31:=Tryz.sizeOf181
 v31:=Tryz.zeroValue181
 t37:=Tryz.underlying324
 a37:=Tryz.isAgg324
 z37:=Tryz.sizeOf324
 v37:=Tryz.zeroValue324
 t70:=Tryz.underlying325
 a70:=Tryz.isAgg325
 z70:=Tryz.sizeOf325
 v70:=Tryz.zeroValue325
 t72:=Tryz.underlying327
 a72:=Tryz.isAgg327
 z72:=Tryz.sizeOf327
 v72:=Tryz.zeroValue327
 t75:=Tryz.underlying330
 a75:=Tryz.isAgg330
 z75:=Tryz.sizeOf330
 v75:=Tryz.zeroValue330
 t76:=Tryz.underlying331
 a76:=Tryz.isAgg331
 z76:=Tryz.sizeOf331
 v76:=Tryz.zeroValue331
 t127:=Tryz.underlying352
 a127:=Tryz.isAgg352
 z127:=Tryz.sizeOf352
 v127:=Tryz.zeroValue352
 t164:=Tryz.underlying377
 a164:=Tryz.isAgg377
 z164:=Tryz.sizeOf377
 v164:=Tryz.zeroValue377}
def Tryz.laysSort_ren:Go.Shelf.Ren:=⟨fun|189=>240|125=>290|257=>289|128=>321|129=>322|294=>312|295=>313|296=>314|297=>315|298=>316|299=>317|216=>318|300=>319|301=>320|328=>338|329=>339|330=>340|331=>341|332=>342|215=>343|343=>353|n=>n,fun|28=>23|3=>3|46=>343|0=>0|51=>370|53=>372|4=>4|183=>364|182=>363|131=>81|5=>5|9=>9|218=>383|222=>387|228=>393|229=>355|n=>n,fun|n=>n⟩
def Tryz.laysSort:Go.Proofs.Lays.n189 Tryz.prog Tryz.laysSort_ren:={
 mixed:=by kernel_rfl
 f125:=Tryz.func290.trans (congrArg some (by kernel_rfl))
 f128:=Tryz.func321.trans (congrArg some (by kernel_rfl))
 f129:=Tryz.func322.trans (congrArg some (by kernel_rfl))
 f189:=Tryz.func240.trans (congrArg some (by kernel_rfl))
 f215:=Tryz.func343.trans (congrArg some (by kernel_rfl))
 f216:=Tryz.func318.trans (congrArg some (by kernel_rfl))
 f257:=Tryz.func289.trans (congrArg some (by kernel_rfl))
 f294:=Tryz.func312.trans (congrArg some (by kernel_rfl))
 f295:=Tryz.func313.trans (congrArg some (by kernel_rfl))
 f296:=Tryz.func314.trans (congrArg some (by kernel_rfl))
 f297:=Tryz.func315.trans (congrArg some (by kernel_rfl))
 f298:=Tryz.func316.trans (congrArg some (by kernel_rfl))
 f299:=Tryz.func317.trans (congrArg some (by kernel_rfl))
 f300:=Tryz.func319.trans (congrArg some (by kernel_rfl))
 f301:=Tryz.func320.trans (congrArg some (by kernel_rfl))
 f328:=Tryz.func338.trans (congrArg some (by kernel_rfl))
 f329:=Tryz.func339.trans (congrArg some (by kernel_rfl))
 f330:=Tryz.func340.trans (congrArg some (by kernel_rfl))
 f331:=Tryz.func341.trans (congrArg some (by kernel_rfl))
 f332:=Tryz.func342.trans (congrArg some (by kernel_rfl))
 f343:=Tryz.func353.trans (congrArg some (by kernel_rfl))
 t0:=Tryz.underlying0
 a0:=Tryz.isAgg0
 z0:=Tryz.sizeOf0
 v0:=Tryz.zeroValue0
 t3:=Tryz.underlying3
 a3:=Tryz.isAgg3
 z3:=Tryz.sizeOf3
 v3:=Tryz.zeroValue3
 t4:=Tryz.underlying4
 a4:=Tryz.isAgg4
 z4:=Tryz.sizeOf4
 v4:=Tryz.zeroValue4
 t5:=Tryz.underlying5
 a5:=Tryz.isAgg5
 z5:=Tryz.sizeOf5
 v5:=Tryz.zeroValue5
 t9:=Tryz.underlying9
 a9:=Tryz.isAgg9
 z9:=Tryz.sizeOf9
 v9:=Tryz.zeroValue9
 t28:=Tryz.underlying23
 a28:=Tryz.isAgg23
 z28:=Tryz.sizeOf23
 v28:=Tryz.zeroValue23
 t46:=Tryz.underlying343
 a46:=Tryz.isAgg343
 z46:=Tryz.sizeOf343
 v46:=Tryz.zeroValue343
 t51:=Tryz.underlying370
 a51:=Tryz.isAgg370
 z51:=Tryz.sizeOf370
 v51:=Tryz.zeroValue370
 t53:=Tryz.underlying372
 a53:=Tryz.isAgg372
 z53:=Tryz.sizeOf372
 v53:=Tryz.zeroValue372
 t131:=Tryz.underlying81
 a131:=Tryz.isAgg81
 z131:=Tryz.sizeOf81
 v131:=Tryz.zeroValue81
 t182:=Tryz.underlying363
 a182:=Tryz.isAgg363
 z182:=Tryz.sizeOf363
 v182:=Tryz.zeroValue363
 t183:=Tryz.underlying364
 a183:=Tryz.isAgg364
 z183:=Tryz.sizeOf364
 v183:=Tryz.zeroValue364
 t218:=Tryz.underlying383
 a218:=Tryz.isAgg383
 z218:=Tryz.sizeOf383
 v218:=Tryz.zeroValue383
 t222:=Tryz.underlying387
 a222:=Tryz.isAgg387
 z222:=Tryz.sizeOf387
 v222:=Tryz.zeroValue387
 t228:=Tryz.underlying393
 a228:=Tryz.isAgg393
 z228:=Tryz.sizeOf393
 v228:=Tryz.zeroValue393
 t229:=Tryz.underlying355
 a229:=Tryz.isAgg355
 z229:=Tryz.sizeOf355
 v229:=Tryz.zeroValue355}
def Tryz.laysDel_ren:Go.Shelf.Ren:=⟨fun|23=>271|n=>n,fun|22=>23|3=>3|4=>4|0=>0|n=>n,fun|n=>n⟩
def Tryz.laysDel:Go.Proofs.Lays2.n23 Tryz.prog Tryz.laysDel_ren:={
 mixed:=by kernel_rfl
 f23:=Tryz.func271.trans (congrArg some (by kernel_rfl))
 t0:=Tryz.underlying0
 a0:=Tryz.isAgg0
 z0:=Tryz.sizeOf0
 v0:=Tryz.zeroValue0
 t3:=Tryz.underlying3
 a3:=Tryz.isAgg3
 z3:=Tryz.sizeOf3
 v3:=Tryz.zeroValue3
 t4:=Tryz.underlying4
 a4:=Tryz.isAgg4
 z4:=Tryz.sizeOf4
 v4:=Tryz.zeroValue4
 t22:=Tryz.underlying23
 a22:=Tryz.isAgg23
 z22:=Tryz.sizeOf23
 v22:=Tryz.zeroValue23
 i3:=by kernel_rfl}
def Tryz.laysIndexB_ren:Go.Shelf.Ren:=⟨fun|137=>212|217=>272|266=>299|n=>n,fun|9=>9|5=>5|3=>3|n=>n,fun|n=>n⟩
def Tryz.laysIndexB:Go.Proofs.Lays.n137 Tryz.prog Tryz.laysIndexB_ren:={
 mixed:=by kernel_rfl
 f137:=Tryz.func212.trans (congrArg some (by kernel_rfl))
 f217:=Tryz.func272.trans (congrArg some (by kernel_rfl))
 f266:=Tryz.func299.trans (congrArg some (by kernel_rfl))
 t3:=Tryz.underlying3
 a3:=Tryz.isAgg3
 z3:=Tryz.sizeOf3
 v3:=Tryz.zeroValue3
 t5:=Tryz.underlying5
 a5:=Tryz.isAgg5
 z5:=Tryz.sizeOf5
 v5:=Tryz.zeroValue5
 t9:=Tryz.underlying9
 a9:=Tryz.isAgg9
 z9:=Tryz.sizeOf9
 v9:=Tryz.zeroValue9}
end Go.Proofs
namespace Go.Tel
open Go.Am
def aKA:anF=DV.int .i64:=rfl
def aWz:aQ5:=by
 intro k ver i zs bs fz ar K KP h b a;exact aXg (C:=C) Go.Proofs.Tryz.laysDel (by rw[<-aKA];exact h) b (by rw[<-aKA];exact a)
structure Frm (M M':Mem):Prop where
 len:M.boxes.length<=M'.boxes.length
 aoc:M.anK.length<=M'.anK.length
 box:∀i,i<M.boxes.length->M'.boxes[i]?=M.boxes[i]?
 fz:∀i,i<M.boxes.length->(i∈M'.fz↔i∈M.fz)
 row:∀k,k<M.anK.length->M'.anK[k]?=M.anK[k]?
 fzb:FzB M->FzB M'
def Frm.trans {M M' M'':Mem}(h:Frm M M')(h':Frm M' M''):Frm M M'':=
 ⟨ah h.len h'.len,ah h.aoc h'.aoc,fun i a=>(h'.box i (ak a h.len)).trans (h.box i a),fun i a=>(h'.fz i (ak a h.len)).trans (h.fz i a),
  fun k b=>(h'.row k (ak b h.aoc)).trans (h.row k b),fun e=>h'.fzb (h.fzb e)⟩
variable{bs:List (Option (List PV))}{fz:List Nat}
def Frm.ext {xb:List (Option (List PV))}{xf:List Nat}{ar xa:List (Option Arr)}(hx:∀i∈xf,bs.length<=i/\i<bs.length+xb.length):Frm ⟨bs,fz,ar⟩ ⟨bs++xb,xf++fz,ar++xa⟩:=
 ⟨by simp,by simp,fun i a=>Y a,fun i a=>by
  simp only[am];exact⟨fun e=>e.elim (fun e=>absurd (hx i e).1 (by simp only at a;omega)) id, .inr⟩,fun k c=>Y c,fun b i a=>by
  simp only[V]
  rcases am.1 a with e|e
  ·exact(hx i e).2
  ·have:=b i e;simp only at this;omega⟩
variable{M M' M'':Mem}
def Frm.frs {a b mb:Nat}(h:Frm M M')(h':FrS a b mb M' M'')(hb:M.boxes.length<=b)(g:M.boxes.length<=mb)(f:M.anK.length<=a):Frm M M'':=
 ⟨ah h.len h'.len,ah h.aoc h'.aoc,fun i c=>(h'.box i (ak c h.len) (by omega) (by omega)).trans (h.box i c),fun i c=>(h'.fz i (ak c h.len)).trans (h.fz i c),
  fun k d=>(h'.row k (by omega)).trans (h.row k d),fun e=>h'.fzb (h.fzb e)⟩
variable{sz:Nat}{W:Bool}{c:PV}{xs:List DV}{ar:List (Option Arr)}
def aw8 (h:slN sz W c xs ar){k:Nat}(hk:kOf c=some k):k<ar.length:=by
 rcases h with⟨rfl,_⟩|⟨a,_,_,rfl,h,_⟩
 ·cases hk
 ·cases hk;exact(U.1 h).1
variable{D:Dk}{d:Nat}
def aqR.frm {ce cs:PV}(h:aqR D d ce cs M)(hf:Frm M M'):aqR D d ce cs M':=
 {box:=(hf.box d (U.1 h.box).1).trans h.box
  ent:=auj h.ent fun k A h1 h2=>(hf.row k (aw8 h.ent h1)).trans h2
  str:=auj h.str fun k A h1 h2=>(hf.row k (aw8 h.str h1)).trans h2
  dif:=h.dif
  nb:=fun e=>h.nb ((hf.fz d (U.1 h.box).1).1 e)
  fzb:=hf.fzb h.fzb}
variable{s:Su}
def ape.moved {a b mb n:Nat}{cst cse:PV}{t:Sp}(h:ape s a b mb cst cse t M)(c:Moved n no M M')(hb:b<n)(d:mb<n):ape s a b mb cst cse t M':=
 {box:=(c.box b hb id).trans h.box
  map:=(c.box mb d id).trans h.map
  r0:=by rw[c.anK];exact h.r0
  r1:=by rw[c.anK];exact h.r1
  r2:=by rw[c.anK];exact h.r2
  r3:=by rw[c.anK];exact h.r3
  r4:=by rw[c.anK];exact h.r4
  r5:=by rw[c.anK];exact h.r5
  stk:=by rw[c.anK];exact h.stk
  set:=by rw[c.anK];exact h.set
  kst:=h.kst,kse:=h.kse,dif:=h.dif
  nb:=fun e=>h.nb ((c.fz b hb id).1 e)
  nm:=fun e=>h.nm ((c.fz mb d id).1 e)
  bm:=h.bm
  fzb:=c.fzb h.fzb}
def Frm.moved {n:Nat}(h:Frm M M')(a:Moved n no M' M'')(d:M.boxes.length<=n):Frm M M'':=
 ⟨ah h.len a.len,by rw[a.anK];exact h.aoc,fun i b=>(a.box i (by omega) id).trans (h.box i b),fun i b=>(a.fz i (by omega) id).trans (h.fz i b),fun k c=>by rw[a.anK];exact h.row k c,fun e=>a.fzb (h.fzb e)⟩
def avF (s:Su):∀(l m:List De) (t:Sp),asV s (l++m) t=(asV s l t).bind (asV s m)
 | [],_,_=>rfl
 |x::l,m,t=>by
  simp only[bA,asV];cases doS s t x with
  |none=>rfl
  |some t1=>exact avF s l m t1
def wo (w:Int)(l:List (Nat×De)):List De:=(l.filter fun p=>decide ((p.1:Int)≠w)).map (·.2)
def aN4 (w:Int)(l:List (Nat×De))(p:Nat×De):wo w (l++ [p])=if(p.1:Int)=w then wo w l else wo w l++ [p.2]:=by
 simp only[wo,bp,bg]
 by_cases h:(p.1:Int)=w<;>simp[h]
def aUa (w:Int)(l:List (Nat×De))(p:Nat×De)(r:List (Nat×De)):wo w (l++p::r)=wo w (l++ [p])++wo w r:=by
 simp[wo,bp,bg,List.filter_cons]
 split<;>simp
def aYJ (w:Int)(l:List (Nat×De)):(wo w l).length<=l.length:=by
 simp only[wo,ab];exact bj _ _
def ape.new {x0 x3:Option (List PV)}(a:∀i∈fz,i<bs.length):
  ape s ar.length (bs.length+2) (bs.length+1) (.d (.slice true [])) (.d (.slice true [])) s.sp0 ⟨bs++ [x0,some [.apZ []],some (apK s ar.length (bs.length+1) (.d (.slice true [])) (.d (.slice true [])) 0),x3],bs.length::fz,ar++s.rows.map some⟩:=
 {box:=by simp only;rw[apA rfl];rfl
  map:=by simp only;rw[apA rfl];rfl
  r0:=by simp[Su.rows,Su.sp0]
  r1:=by simp[Su.rows,Su.sp0]
  r2:=by simp[Su.rows,Su.sp0]
  r3:=by simp[Su.rows]
  r4:=by simp[Su.rows]
  r5:=by simp[Su.rows]
  stk:= .inl ⟨rfl,rfl⟩
  set:= .inl ⟨rfl,rfl⟩
  kst:=fun k b=>by cases b
  kse:=fun k b=>by cases b
  dif:=fun k b=>by cases b
  nb:=fun e=>by
   rcases aR.1 e with e|e
   ·omega
   ·have:=a _ e;omega
  nm:=fun e=>by
   rcases aR.1 e with e|e
   ·omega
   ·have:=a _ e;omega
  bm:=by omega
  fzb:=fun i e=>by
   simp only[V,aw,au]
   rcases aR.1 e with e|e
   ·omega
   ·have:=a _ e;omega}
def awL {x:En}(h:x.formed=true):apG x.kind<=x.ns.length:=by
 simp only[En.formed,ap,decide_eq_true_eq]at h;omega
def aDd {ce cs:PV}(h:aqR D d ce cs M)(f:D.Ok)(w:Int):
  SC C 74 [.ptr d 0,pI w] M
   (fun p M'=>∃t b mb a cst cse,p= .ptr b 0/\D.state w=some t/\ape D.su a b mb cst cse t M'/\Frm M M'/\M.boxes.length<=b/\M.boxes.length<=mb/\M.anK.length<=a)
   (fun dd M'=>D.state w=none/\aAN dd/\Frm M M'):=by
 obtain⟨bs,fz,ar⟩:=M;have c:=h.box;rw[apg]at c;simp only at c;have Z:d<bs.length:=(U.1 c).1;have ay5:∀i∈fz,i<bs.length:=h.fzb
 have aK:bs.length∉fz:=fun e=>ai _ (ay5 _ e)
 have az:∀k,bs.length+k∉fz:=fun k e=>by have:=ay5 _ e;omega
 have aH:¬d=bs.length:=by omega
 have aI:∀k,¬d=bs.length+k:=fun k=>by omega
 have aj:∀k,d<bs.length+k:=fun k=>by omega
 have aL:¬bs.length+1=bs.length:=by omega
 have aM:¬bs.length+2=bs.length:=by omega
 have aA:¬bs.length+3=bs.length:=by omega
 have Y:=aKb D.su (Su.az7 f.su);rw[aoB]at Y;refine anJ as1 anO ?_;simp only[as1,anO,c,Z,aq2,aoF,anZ,aoo,ao,V,av,aj,RN,F,H,I,S];refine arE rfl rfl Y (by simp[Su.rows]) ?_;simp only[Su.pv,PV.shift,apR,RN];simp only[aFF,c,Z,aoF,apA,aqP,az,aA,an6,aPP,aAZ,aoq,aoI,axW,arl,axa,aFh,RN,F,H,S];have J:Frm ⟨bs,fz,ar⟩ ⟨bs++ [some [PV.d (dI w)],some [PV.apZ []],some (apK D.su ar.length (bs.length+1) (.d (.slice true [])) (.d (.slice true [])) 0),some [PV.ptr (bs.length+2) 0]],bs.length::fz,ar++D.su.rows.map some⟩:=Frm.ext (xf:=[bs.length]) (by simp);have aXU:=h.frm J;have am:∀l r p,D.stands=l++p::r->aqG D.su D.su.sp0 p.2:=fun l r p hl=>by
  obtain⟨y,hy,e⟩:=avg D.es D.st 0 p (by rw[Dk.stands]at hl;rw[hl];simp);rw[e];exact f.fine y hy
 have X:∀l,(∃r,D.stands=l++r)->∀x∈wo w l,aqG D.su D.su.sp0 x:=fun l hl x o=>by
  obtain⟨r,hr⟩:=hl;simp only[wo,aB,bD]at o;obtain⟨p,⟨hp,_⟩,rfl⟩:=o;obtain⟨y,hy,e⟩:=avg D.es D.st 0 p (by rw[Dk.stands]at hr;rw[hr];simp[hp]);rw[e];exact f.fine y hy
 have a08:D.stands.length<=24:=ah (avf _ _ _) f.few;have aZq:D.state w=asV D.su (wo w D.stands) D.su.sp0:=rfl;rw[apK]at J aXU;refine atq (aLM (ce:=ce) (cs:=cs) f.len (by have:=f.few;omega) (fun x o=>awL (f.formed x o))) (fun _ h=>h.elim) rfl (by kernel_rfl) (fun i hi=> ?_) (fun x o=> ?_) (fun i hi=> ?_) (fun M' P=>aXU.toDkRd.moved (by simp;omega) P)
  (fun Q q=>∃l r t cst cse,D.stands=l++r/\Q=l.map asu/\asV D.su (wo w l) D.su.sp0=some t/\ape D.su ar.length (bs.length+2) (bs.length+1) cst cse t q/\Frm ⟨bs,fz,ar⟩ q/\q.boxes[bs.length+3]?=some (some [.ptr (bs.length+2) 0])/\bs.length+4<=q.boxes.length) ?_ ?_ ?_ ?_
 ·exact aXU.fzb i hi
 ·simp only[aov,aB]at o
  obtain⟨p,_,rfl⟩:=o
  rfl
 ·subst hi;simp;omega
 ·rintro Q q M2 P ⟨l,r,t,cst,cse,j,A,B,T,R,z,W⟩
  simp only[V,aw,au]at P;refine⟨l,r,t,cst,cse,j,A,B,T.moved P (by omega) (by omega),R.moved P (by simp),(P.box _ (by omega) id).trans z,ah W P.len⟩
 ·refine⟨[],D.stands,D.su.sp0, .d (.slice true []), .d (.slice true []),rfl,rfl,rfl,?_,J,?_,?_⟩
  ·have:=ape.new (s:=D.su) (ar:=ar) (x0:=some [PV.d (dI w)]) (x3:=some [PV.ptr (bs.length+2) 0]) ay5
   rw[apK]at this;exact this
  ·simp only;rw[apA rfl];rfl
  ·simp
 ·rintro L cells Q x aG q o O g u ⟨l,r,t,cst,cse,j,A,B,T,R,z,W⟩ M0
  simp only[V,aw,au]at O g u⊢;obtain⟨p,E,rfl⟩:∃p E,r=p::E:=by
   cases r with
   |nil=>
    rw[bf]at j;rw[aov,aC,aC,<-Dk.stands,j,A]at o;have:=congrArg bn o;simp at this
   |cons p E=>exact⟨p,E,rfl⟩
  have aE:x=asu p:=by
   rw[aov,aC,aC,<-Dk.stands,j,A,bg,aF]at o;have:=List.append_cancel_left o;exact(List.cons.inj this).1.symm
  subst aE;obtain⟨G,ae,ac⟩:=q;simp only at O g u z W;have ay:bs.length+3<G.length:=by omega
  have ab:D.stands=(l++ [p])++E:=by rw[j];simp
  simp only[asu,List.zip_cons_cons,List.zip_nil_left,aF,bv,RN,F,H,S]
  by_cases hw:(p.1:Int)=w
  ·have hb:((p.1:Int) !=w)=false:=by simp[hw]
   simp only[hb,auW,RN,F];refine⟨g,u, .refl _,l++ [p],E,t,cst,cse,ab,by rw[A];simp[asu],by rw[aN4,if_pos hw];exact B,T,R,z,W⟩
  ·have hb:((p.1:Int) !=w)=true:=by simp[hw]
   have N:=aFD _ 0 _ t (aNR f.su) (X l ⟨_,j⟩) B;have aN:=aYJ w l;have aJ:l.length<=24:=by
    have:=congrArg bn j;simp at this;omega
   have aD:aIK D.su t:=N.sp (by omega);have an:aqG D.su t p.2:=aqG.same (n:=0) N.ll.symm N.hh.symm (am l E p j);simp only[hb,z,RN,F,S];have ak:=aRM aWz T aD p.2 an;refine SC.aqk (SC.mono ak ?_) ?_
   ·rintro v M3 ⟨t',atH,axb,g1,g2,m⟩
    have ap:Frm ⟨bs,fz,ar⟩ M3:=R.frs m (by simp) (by simp) (by simp);have ax:=m.len;simp only at ax;simp only[auW];refine⟨(m.box _ (by simp only;omega) (by omega) (by omega)).trans g,fun e=>u ((m.fz _ (by simp only;omega)).1 e),⟨m.len,m.aoc,fun i hi K=>m.box i K (by omega) (by omega),fun i hi K=>m.fz i K,fun k hk=> ?_,m.fzb⟩,?_⟩
    ·refine m.row k ?_
     rcases hk with hk|hk
     ·have:=aw8 h.ent hk;simpa using this
     ·have:=aw8 h.str hk;simpa using this
    ·refine⟨l++ [p],E,t',atH,axb,ab,by rw[A];simp[asu],?_,g2,ap,(m.box _ (by simp only;omega) (by omega) (by omega)).trans z,by omega⟩
     rw[aN4,if_neg hw,avF,B];simp[asV,g1]
   ·rintro dd M3 ⟨g1,g2,m⟩
    simp only[auW,RN];refine⟨?_,g2,R.frs m (by simp) (by simp) (by simp)⟩;rw[aZq,j,aUa,aN4,if_neg hw,avF,avF,B];simp[asV,g1]
 ·rintro q ⟨l,r,t,cst,cse,j,A,B,T,R,z,W⟩ O
  have hr:r=[]:=by
   have:=congrArg bn A;rw[aov,aC,aC,<-Dk.stands,j]at this;simp at this;exact this
  subst hr;rw[bf]at j;obtain⟨G,ae,ac⟩:=q;simp only at z W;have ay:bs.length+3<G.length:=by omega
  simp only[z,RN,F,S];exact⟨t,_,_,_,cst,cse,rfl,by rw[aZq,j];exact B,T,R,by omega,by omega,aq _⟩
def fmL:List (ByteArray×Nat):=[(⟨#[99,117,116]⟩,1),(⟨#[99,104,97,110,103,101]⟩,3),(⟨#[111,114,100,101,114]⟩,3),(⟨#[115,101,114,118,101]⟩,2),(⟨#[115,101,116]⟩,1),(⟨#[115,116,114,105,107,101]⟩,1)]
def aMQ (p:ByteArray×Nat):DV:= .agg [.str p.1,dI (p.2:Int)]
def aHs (l:List (ByteArray×Nat)):List DV:=l.flatMap fun p=>[.str p.1,dI (p.2:Int)]
def aOl:aHs fmL=[.str ⟨#[99,117,116]⟩,dI 1, .str ⟨#[99,104,97,110,103,101]⟩,dI 3, .str ⟨#[111,114,100,101,114]⟩,dI 3, .str ⟨#[115,101,114,118,101]⟩,dI 2, .str ⟨#[115,101,116]⟩,dI 1, .str ⟨#[115,116,114,105,107,101]⟩,dI 1]:=rfl
def aI4:Pure C 121 [] (.d (.agg (aHs fmL))) []:=by
 refine am6 avw aTr ?_;simp only[avw,aTr,aOl,azW,RN,F,H,S]
def aKD (n:Int):Pure C 206 [dI n] (.d (.bool (!inR n 0 9999))) []:=by
 refine am6 as4 anN ?_;simp only[as4,anN,RN,F];refine anE (awN _ _ _) ?_;(try simp only[RN])
def fwE (k:Int):ByteArray:=(fmL.getD (k - 1).toNat default).1
def aMo {k:Int}(h:1<=k/\k<=6):k=1\/k=2\/k=3\/k=4\/k=5\/k=6:=by omega
def aWA {k:Int}(h:1<=k/\k<=6):aIL (apx (bI 2 (bH ((k - 1).toNat*2) (bG PV.d (aHs fmL))))) (bI 2 (bH ((k - 1).toNat*2) (bG PV.d (aHs fmL))))= .d (.agg [.str (fwE k),dI (apG k)])/\(k - 1).toNat*2+2<=(bG PV.d (aHs fmL)).length/\bJ .i64 (k - 1)=k - 1:=by
 rcases aMo h with rfl|rfl|rfl|rfl|rfl|rfl<;>exact⟨rfl,by decide,by decide⟩
def aJi (k:Int):apG k<=3:=by
 unfold apG;split
 ·omega
 ·split<;>omega
def aF2 (x:En):Pure C 110 [x.dv] (.d (.bool x.formed)) []:=by
 refine am6 atY anN ?_;simp only[atY,anN,aon,RN,F,H,S];refine anE (awN _ _ _) ?_;cases c:inR x.kind 1 6
 ·(try simp only[RN,F])
  simp only[En.formed,c,ax]
 have e:1<=x.kind/\x.kind<=6:=by simpa[inR]using c
 simp only[ab,RN,F,H,S];refine anE aI4 ?_;obtain⟨e1,e2,f⟩:=aWA e;have g:=aJi x.kind;simp only[f,e1,RN,H,S];refine⟨by omega,by omega,e2,?_⟩
 by_cases b:x.ns.length=apG x.kind
 ·have a:((x.ns.length:Int) !=(apG x.kind:Int))=false:=by simp[b]
  simp only[a,RN,F,H,S];refine aoQ rfl rfl (atM x.ns 206 [] (fun n=> !inR n 0 9999) (by omega) (by kernel_rfl) fun n _=>aKD n) ?_;simp only[axN,Bool.not_not,RN];simp[En.formed,c,b]
 ·have a:((x.ns.length:Int) !=(apG x.kind:Int))=true:=by simp;omega
  simp only[a,RN,F];simp[En.formed,b]
def aAa (e1 e2:Bool)(D:Dk):List DV:=[.anY D.su.cs,sF (D.su.days.map awJ), .slice e1 (D.es.map En.dv), .slice e2 (D.st.map .bool)]
def atI (e1 e2:Bool)(D:Dk):DV:= .anY (aAa e1 e2 D)
def aG1 (h:slN sz W c xs ar):∃ex,aoO ⟨bs,fz,ar⟩ c=some (.slice ex xs):=by
 rcases h with⟨rfl,rfl⟩|⟨k,ver,st,rfl,h,_⟩
 ·exact⟨true,rfl⟩
 ·exact⟨false,by simp[aoO,Mem.row,h]⟩
def ayV {ce cs:PV}(h:aqR D d ce cs M):∃e1 e2,datum M (.ptr d 0)=some (atI e1 e2 D):=by
 obtain⟨bs,fz,ar⟩:=M;have h1:=h.box;rw[apg]at h1;obtain⟨e1,a⟩:=aG1 (bs:=bs) (fz:=fz) h.ent;obtain⟨e2,b⟩:=aG1 (bs:=bs) (fz:=fz) h.str;simp only at h1 a b;refine⟨e1,e2,?_⟩;have hd:∀x,aoO ⟨bs,fz,ar⟩ (.d x)=some x:=fun _=>rfl
 have c:aoi ⟨bs,fz,ar⟩ [.d (.anY D.su.cs), .d (sF (D.su.days.map awJ)),ce,cs]=some (aAa e1 e2 D):=by
  simp only[aoi,hd,a,b];rfl
 simp only[datum,Mem.box,h1,c]
 rfl
def ay7 (e1 e2:Bool)(D:Dk)(hh:D.su.pc.hands.length<=1000)(n:Int):Pure C 166 [atI e1 e2 D,dI n] (.d (.bool (inR n 0 (D.su.pc.hands.length - 1)))) []:=by
 refine am6 asD anO ?_;have a:bJ .i64 ((D.su.pc.hands.length:Int) - 1)=(D.su.pc.hands.length:Int) - 1:=anI (by omega);simp only[asD,anO,atI,aAa,aq2,ab,a,RN,F,H,S];refine anE (awN _ _ _) ?_;(try simp only[])
def aFd (e1 e2:Bool)(D:Dk)(n:Int):Pure C 170 [atI e1 e2 D,dI n] (.d (.bool (inR n 1 D.su.days.length))) []:=by
 refine am6 asZ anO ?_;simp only[asZ,anO,atI,aAa,ab,RN,F,H,S];refine anE (awN _ _ _) ?_;(try simp only[])
def aF3 (e1 e2:Bool)(D:Dk):Pure C 69 [atI e1 e2 D] (.d (.bool true)) []:=by
 refine am6 asE anN ?_;simp only[asE,anN,atI,aAa,RN,F,H,S]
def aOL {f:FuncId}{args:List PV}{ds ds':List DV}{x:DV}{K:PV->Mem->Prop}{KP:DV->Mem->Prop}(h:Pure C f ds' (.d x) [])(hx:aFN (.d x)=true)(a:aos M args=some ds)(c:ds.map DV.strip=ds')(b:K (.d x) M):SC C f args M K KP:=
 aLC h hx rfl a c (by simpa[PV.shift,apR]using b)
section
variable (e1 e2:Bool)(D:Dk)
def aPD (n:Int):Pure C 375 [(De.cut n).cs,atI e1 e2 D] (.d (.bool (D.apj (.cut n)))) []:=by
 refine am6 atX anO ?_;simp only[atX,anO,De.cs,atI,RN,F,H,S];refine anE (aru _) ?_;simp only[Dk.apj]
def aIT (hl:D.su.pc.links.length<=1000)(c:Chg):Pure C 376 [(De.change c).cs,atI e1 e2 D] (.d (.bool (D.apj (.change c)))) []:=by
 refine am6 asI anO ?_;have b:bJ .i64 ((D.su.pc.links.length:Int) - 1)=(D.su.pc.links.length:Int) - 1:=anI (by omega);simp only[asI,anO,De.cs,atI,aAa,aq2,ab,b,RN,F,H,S];refine anE (awN _ _ _) ?_;cases h1:inR c.link 0 ((D.su.pc.links.length:Int) - 1)
 ·(try simp only[RN,F])
  simp only[Dk.apj,h1,ax]
 (try simp only[RN,F,H,S]);refine anE (aru _) ?_;cases h2:anP c.pr.a
 ·(try simp only[RN,F])
  simp only[Dk.apj,h1,Pr.ok,h2,ax,bl]
 (try simp only[RN,F,H,S]);refine anE (aru _) ?_;(try simp only[RN,F,H,I,J,N,S]);simp only[Dk.apj,h1,Pr.ok,h2,aP]
def aK7 (hh:D.su.pc.hands.length<=1000)(n:Int)(f:Fr):Pure C 377 [(De.order n f).cs,atI e1 e2 D] (.d (.bool (D.apj (.order n f)))) []:=by
 refine am6 as6 anO ?_;have b:=ay7 e1 e2 D hh n;have a:=aOp f;rw[aoa]at a;rw[atI]at b⊢;simp only[as6,anO,De.cs,RN,F,H,S];refine anE b ?_;cases h1:inR n 0 ((D.su.pc.hands.length:Int) - 1)
 ·(try simp only[RN,F])
  simp only[Dk.apj,h1,ax]
 (try simp only[RN,F,H,S]);refine anE a ?_;(try simp only[RN,F,H,I,J,N,S]);simp only[Dk.apj,h1,aP]
def aLH (hh:D.su.pc.hands.length<=1000)(n c:Int):Pure C 378 [(De.serve n c).cs,atI e1 e2 D] (.d (.bool (D.apj (.serve n c)))) []:=by
 refine am6 as8 anO ?_;have a:=ay7 e1 e2 D hh n;rw[atI]at a⊢;simp only[as8,anO,De.cs,RN,F,H,S];refine anE a ?_;simp only[Dk.apj]
def aQJ (n:Int):Pure C 379 [(De.set n).cs,atI e1 e2 D] (.d (.bool (D.apj (.set n)))) []:=by
 refine am6 at1 anO ?_;have a:=aFd e1 e2 D n;rw[atI]at a⊢;simp only[at1,anO,De.cs,RN,F,H,S];refine anE a ?_;simp only[Dk.apj]
def aJJ (hl:D.es.length<=1000)(n:Int):Pure C 373 [(De.strike n).cs,atI e1 e2 D] (.d (.bool (D.apj (.strike n)))) []:=by
 refine am6 asK anO ?_;have c:bJ .i64 ((D.es.length:Int) - 1)=(D.es.length:Int) - 1:=anI (by omega);simp only[asK,anO,De.cs,atI,aAa,ab,c,RN,F,H,S];refine anE (awN _ _ _) ?_;cases h1:inR n 0 ((D.es.length:Int) - 1)
 ·(try simp only[RN,F])
  simp only[Dk.apj,h1,ax]
 have a:0<=n/\n<=(D.es.length:Int) - 1:=by simpa[inR]using h1
 have b:n.toNat<D.es.length:=by omega
 simp only[a.1,b,ab,getD_map,aon,RN,F,H,S];have:((D.es.getD n.toNat default).kind !=6)=decide ((D.es.getD n.toNat default).kind≠6):=by
  by_cases h:(D.es.getD n.toNat default).kind=6
  ·rw[h];rfl
  ·rw[decide_eq_true h];exact bne_iff_ne.2 h
 simp only[Dk.apj,h1,aP,this]
end
def De.aR2:De->FuncId
 | .cut _=>375
 | .change _=>376
 | .order _ _=>377
 | .serve _ _=>378
 | .set _=>379
 | .strike _=>373
variable{D:Dk}
def Dk.Ok.small (h:D.Ok):D.su.pc.links.length<=5/\D.su.pc.hands.length<=4:=by
 have:=Pc.avi (Su.facts h.su).1;omega
def aXt (e1 e2:Bool){D:Dk}(h:D.Ok)(x:De):Pure C x.aR2 [x.cs,atI e1 e2 D] (.d (.bool (D.apj x))) []:=by
 obtain⟨h1,h2⟩:=h.small;cases x with
 |cut n=>exact aPD _ _ _ _
 |change c=>exact aIT _ _ _ (by omega) _
 |order n f=>exact aK7 _ _ _ (by omega) _ _
 |serve n c=>exact aLH _ _ _ (by omega) _ _
 |set n=>exact aQJ _ _ _ _
 |strike n=>exact aJJ _ _ _ (by have:=h.few;omega) _
def aR4 (x:De):azZ C.P x.ty "tellurion/journeyman.fine" =some x.aR2/\callable C.P x.aR2=true:=by
 cases x<;>exact⟨by kernel_rfl,by kernel_rfl⟩
def aRF (x:De):x.cs.strip=x.cs:=by cases x<;>rfl
def aR3 {d:Nat}{ce cs:PV}{M:Mem}(h:aqR D d ce cs M)(a:D.Ok)(x:De){base:Nat}{K:PV->Mem->Prop}{KP:DV->Mem->Prop}(b:K (.d (.bool (D.apj x))) M):
  anG C base (.inv "tellurion/journeyman.fine") [.d x.dv, .ptr d 0] M K KP:=by
 obtain⟨e1,e2,hd⟩:=ayV h;obtain⟨c,e⟩:=aR4 x;refine⟨_,c,e,aOL (ds:=[x.cs,atI e1 e2 D]) (ds':=[x.cs,atI e1 e2 D]) (aXt e1 e2 a x) rfl ?_ ?_ b⟩
 ·simp only[aos,hd];rfl
 ·simp only[aF,bv,aRF];rfl
def aFl (d:DV):Prop:=∃s,d= .iface T.atf (.agg [.str s])
variable{bs:List (Option (List PV))}
def aTK {b:Nat}{y:Option (List PV)}(h:bs[b]?=some y):bs.set b y=bs:=by
 apply aV;intro i;rw[bt]
 by_cases a:b=i
 ·subst a
  have:=(U.1 h).1;simp[this];have h2:=h;rw[a7 this]at h2
  simpa using h2.symm
 ·simp[a]
def aFe {g:FuncId}{fs cs:List PV}{fz:List Nat}{ar:List (Option Arr)}{K:PV->Mem->Prop}{KP:DV->Mem->Prop}(j:FzB ⟨bs,fz,ar⟩)(hc:callable C.P g=true)
  (h:SC C g (fs++cs) ⟨bs++ [some [pI 0]],fz,ar⟩
   (fun _ M'=>M'.boxes[bs.length]?=some (some [pI 0])/\bs.length∉M'.fz/\K (pI 0) M')
   (fun d M'=>M'.boxes[bs.length]?=some (some [pI 0])/\bs.length∉M'.fz/\M'.boxes.length∉M'.fz/\
    ((aAN d/\∀x,K (pI 7) ⟨(M'.boxes++ [x]).set bs.length (some [pI 7]),M'.fz,M'.anK⟩)\/
     (aFl d/\∀x,K (pI 4) ⟨(M'.boxes++ [x]).set bs.length (some [pI 4]),M'.fz,M'.anK⟩)))):
  SC C 72 [.func (.func g) fs cs] ⟨bs,fz,ar⟩ K KP:=by
 have n:bs.length∉fz:=fun e=>ai _ (j _ e)
 refine aT2 mixed aBW ?_;simp only[aqM,anZ,aoo,V,RN,F];refine⟨bs.length,rfl,?_⟩;simp only[aqN,aHX,RN,F];refine⟨hc,SC.aqk (SC.mono h ?_) ?_⟩
 ·rintro v ⟨a,f,ar'⟩ ⟨h1,h2,c⟩
  simp only at h1 h2;have k:=(U.1 h1).1;simp only[h1,h2,aTK h1,RN,S];simp only[aLS,aqp,aDZ,au0,h1,RN,F,S];exact c
 ·rintro d ⟨a,f,ar'⟩ ⟨h1,h2,c,l⟩
  simp only at h1 h2 c l;have k:=(U.1 h1).1
  rcases l with⟨⟨y,rfl,p,o⟩,i⟩|⟨⟨s,rfl⟩,i⟩
  ·have b:bs.length<(a++ [some [PV.d y]]).length:=by simp;omega
   simp only[aHc,aqp,aDY,arB,au0,anZ,aoo,c,o,aoF k,h1,h2,aL b,RN,F,S];exact i _
  ·have b:bs.length<(a++ [some [PV.d (.str s)]]).length:=by simp;omega
   have m:(T.atf==T.apV)=false:=by decide
   simp only[aHc,aqp,aDY,ao4 m,arB,au0,anZ,aoo,c,aoF k,h1,h2,aL b,RN,F,S];exact i _
end Go.Tel
namespace Go.Am
section
variable {C:Ctx}{base:Nat}{KP:DV->Mem->Prop}{K:PV->Mem->Prop}{M:Mem}
variable{agg:Bool}{f:FuncId}{rest:List PV}
def aUx {n:Nat}{cs:List DV}(hl:n<=cs.length)(h:SC C f rest M K KP):anG C base (.ays agg n f) (.d (.anY cs)::rest) M K KP:=by
 simp only[anG,aol];exact⟨hl,SC.mono h fun p M' hh=>⟨⟨hl,trivial⟩,hh⟩⟩
def aUw {n b off:Nat}{cs:List PV}(hb:M.boxes[b]?=some (some cs))(hl:off+n<=cs.length)(h:SC C f rest M (fun p M'=>M'.boxes[b]?=M.boxes[b]?/\K p M') KP):anG C base (.ays agg n f) (.ptr b off::rest) M K KP:=by
 have a:M.box b=some cs:=by simp[Mem.box,hb]
 simp only[anG,aol,a];refine⟨hl,SC.mono h fun p M' hh=>⟨?_,hh.2⟩⟩;have a0a:M'.box b=some cs:=by simp[Mem.box,hh.1,hb]
 simp only[a0a];exact⟨hl,trivial⟩
end
end Go.Am
namespace Go.Tel
open Go.Am
def Dk.goes (D:Dk):De->Bool
 | .strike n=> !D.st.getD n.toNat default&&(D.state n).isSome
 |y=>match D.state (-1)with
  |none=>false
  |some t=>(doS D.su t y).isSome
variable{D:Dk}{y:De}
def aFT (a:∀n,y≠ .strike n):D.goes y=match D.state (-1)with|none=>false|some t=>(doS D.su t y).isSome:=by
 cases y with
 |strike n=>exact absurd rfl (a n)
 | _=>rfl
def aWR (a:∀n,y≠ .strike n):(y.ty==T.aoe)=false:=by
 cases y with
 |strike n=>exact absurd rfl (a n)
 | _=>rfl
def Frm.new {bs xb:List (Option (List PV))}{fz xf:List Nat}{ar:List (Option Arr)}(hx:∀i∈xf,bs.length<=i/\i<bs.length+xb.length):Frm ⟨bs,fz,ar⟩ ⟨bs++xb,xf++fz,ar⟩:=by
 have:=Frm.ext (bs:=bs) (xb:=xb) (fz:=fz) (xf:=xf) (ar:=ar) (xa:=[]) hx
 simpa using this
def aPH {d:Nat}{ce cs:PV}{M:Mem}(h:aqR D d ce cs M)(i:D.Ok)(y:De)(hf:D.apj y=true)(L:aqG D.su D.su.sp0 y){pb:Nat}(r:M.boxes[pb]?=some (some [.ptr d 0])):
  SC C 112 [.d (.anY [y.dv]), .ptr pb 0] M (fun _ M'=>D.goes y=true/\Frm M M') (fun w M'=>D.goes y=false/\aAN w/\Frm M M'):=by
 obtain⟨bs,fz,ar⟩:=M;have f:=h.box;rw[apg]at f;simp only at f r;have O:d<bs.length:=(U.1 f).1;have m:pb<bs.length:=(U.1 r).1;have q:bs.length∉fz:=fun e=>ai _ (h.fzb _ e)
 have K:∀k,d<bs.length+k:=fun k=>by omega
 have s:∀k,pb<bs.length+k:=fun k=>by omega
 have c:∀x,Frm ⟨bs,fz,ar⟩ ⟨bs++ [x],bs.length::fz,ar⟩:=fun x=>Frm.new (xf:=[bs.length]) (by simp)
 refine anJ aql apc ?_
 by_cases Z:∃n,y= .strike n
 ·obtain⟨n,rfl⟩:=Z
  have A:(De.strike n).dv= .iface T.aoe (.agg [dI n]):=rfl;have z:(0<=n/\n<=(D.es.length:Int) - 1)/\n.toNat<D.st.length:=by
   simp only[Dk.apj,inR,ap,decide_eq_true_eq]at hf;have:=i.len;omega
  rw[A];simp only[aql,apc,arB,r,m,O,K,s,f,aoF,anZ,aoo,q,V,RN,F,H,S];obtain⟨k2,aN2,aj,rfl,p,_⟩:=az6 h.str (by intro e;simp at e;rw[e]at z;simp at z);simp only at p;simp only[p,z.1.1,z.2,ab,getD_map,aqz,RN,S];cases u:D.st.getD n.toNat default
  ·simp only[r,m,aoF,V,RN,F,S]
   refine SC.aqk (SC.mono (aDd (h.frm (c _)) i n) ?_) ?_
   ·rintro v M' ⟨t,b,mb,a,cst,cse,rfl,g,o,j,_⟩
    obtain⟨E,G,ar'⟩:=M';(try simp only[RN,F,H,I,J,N,S]);exact⟨by simp only[Dk.goes,u,g];rfl,(c _).trans j⟩
   ·rintro w M' ⟨g,o,j⟩
    exact⟨by simp[Dk.goes,g],o,(c _).trans j⟩
  ·simp only[RN,F,S]
   exact⟨by simp only[Dk.goes,u,Bool.not_true,ax],⟨_,rfl,rfl,rfl⟩,c _⟩
 ·have B:∀n,y≠ .strike n:=fun n e=>Z ⟨n,e⟩
  have A:y.dv= .iface y.ty y.cs:=rfl;rw[A];simp only[aql,apc,ao4 (aWR B),r,m,s,aoF,anZ,aoo,q,V,RN,F,H,S];refine aUx (by simp) ?_;refine SC.aqk (SC.mono (aDd (h.frm (c _)) i (-1)) ?_) ?_
  ·rintro v M' ⟨t,b,mb,a,cst,cse,rfl,g,o,j,W,X,Y⟩
   obtain⟨E,G,ar'⟩:=M';have l:=i.aCT g;(try simp only[RN,F,H,I,J,N,S]);rw[<-A];refine SC.aqk (SC.mono (aRM aWz o (l.sp (by decide)) y (aqG.same (n:=0) l.ll.symm l.hh.symm L)) ?_) ?_
   ·rintro v R ⟨t',atH,axb,P,q2,Q⟩
    obtain⟨ae,ah,ac⟩:=R;(try simp only[RN,F,H,I,J,N,S]);exact⟨by rw[aFT B,g];simp[P],(c _).trans (j.frs Q W X Y)⟩
   ·rintro w R ⟨P,q2,Q⟩
    exact⟨by rw[aFT B,g];simp[P],q2,(c _).trans (j.frs Q W X Y)⟩
  ·rintro w M' ⟨g,o,j⟩
   exact⟨by rw[aFT B,g],o,(c _).trans j⟩
end Go.Tel
namespace Go.Am
variable{base:Nat}{KP:DV->Mem->Prop}{f:FuncId}{args:List PV}{M:Mem}{ds ds':List DV}{x:DV}{K:PV->Mem->Prop}
def aOd {C:Ctx}{r:PV}{a:List Arr}(h1:aos M args=some ds)(h2:ds.map DV.strip=ds')(e:Pure C f ds' r a)(g:aFN r=true)(b:a.all apY=true)(hx:datum (rowsOf a) r=some x)(c:K (.d x) M):anG C base (.auN f) args M K KP:=
 ⟨ds,h1,r,a,x,h2▸e, .inr ⟨g,b,hx⟩,c⟩
def aUv {C:Ctx}(h1:aos M args=some ds)(h2:ds.map DV.strip=ds')(b:Pure C f ds' (.d x) [])(hx:aFM x=true)(a:K (.d x) M):anG C base (.auN f) args M K KP:=
 ⟨ds,h1,_,_,x,h2▸b, .inl ⟨rfl,rfl,hx⟩,a⟩
end Go.Am
namespace Go.Tel
open Go.Am
def av7 {α:Type}(l:List α):Nat:=bif l.isEmpty then 0 else 1
def aGc {α:Type}(l:List α):av7 l≠2:=by unfold av7;cases l.isEmpty<;>decide
variable{sz:Nat}{xs:List DV}
def aGP {v:Nat}(h:(flat xs).all aAh=true):apY ⟨sz,xs,v,av7 xs⟩=true:=by
 simp only[apY,h,aY];cases xs<;>rfl
def axS (xs:List DV)(hf:∀y∈xs,y.fits 1=true)(hl:xs.length<=1000000):Pure C 114 [.slice false xs] (.tsl 0 0 0) [⟨1,xs,0,av7 xs⟩]:=by
 by_cases a:xs=[]
 ·subst a;exact axR [] hf hl
 rw[show av7 xs=1 by cases xs with|nil=>exact absurd rfl a|cons=>rfl];refine ap3 ava anN ?_;simp only[ava,anN,RN,F,N];refine⟨fun _=> ?_,fun b=>absurd b a⟩;exact⟨hf,a,by simp,by omega,auY (k:=1) (A:=⟨1,xs,0,1⟩) rfl rfl (aS _) rfl⟩
def aPz (xs:List DV)(hf:∀y∈xs,y.fits 4=true)(hl:xs.length<=1000000):Pure C 204 [.slice false xs] (.tsl 0 0 0) [⟨4,xs,0,av7 xs⟩]:=by
 by_cases a:xs=[]
 ·subst a;exact aHQ [] hf hl
 rw[show av7 xs=1 by cases xs with|nil=>exact absurd rfl a|cons=>rfl];refine ap3 aqY anN ?_;simp only[aqY,anN,RN,F,N];refine⟨fun _=> ?_,fun b=>absurd b a⟩;exact⟨hf,a,by simp,by omega,auY (k:=1) (A:=⟨4,xs,0,1⟩) rfl rfl (aS _) rfl⟩
def Su.aOH (s:Su):List Arr:=[⟨3,s.pc.links.map Lk.dv,0,1⟩,⟨1,s.pc.hands.map anF,0,av7 (s.pc.hands.map anF)⟩,⟨2,s.tg.map Fr.dv,0,1⟩,⟨4,s.fs.map Fs.dv,0,av7 (s.fs.map Fs.dv)⟩,⟨1,s.dvd.cir.map anF,0,av7 (s.dvd.cir.map anF)⟩,⟨1,s.cal.cy.map anF,0,av7 (s.cal.cy.map anF)⟩]
def aRE (s:Su)(hs:s.Some):Pure C 108 [s.dv] s.pv s.aOH:=by
 have h1:=aDa (s.pc.links.map Lk.dv) (by intro y b;simp only[aB]at b;obtain⟨z,_,rfl⟩:=b;rfl) (by have:=hs.l.2;simp;omega) (by simpa using hs.l.1);have h2:=axS (s.pc.hands.map anF) aqU (by have:=hs.h;simp;omega);have p:=aHP (s.tg.map Fr.dv) (by intro y b;simp only[aB]at b;obtain⟨z,_,rfl⟩:=b;rfl) (by have:=hs.t.2;simp;omega) (by simpa using hs.t.1);have g:=aPz (s.fs.map Fs.dv) (by intro y b;simp only[aB]at b;obtain⟨z,_,rfl⟩:=b;rfl) (by have:=hs.f;simp;omega);have i:=axS (s.dvd.cir.map anF) aqU (by have:=hs.ci;simp;omega);have j:=axS (s.cal.cy.map anF) aqU (by have:=hs.cy;simp;omega);obtain⟨k,e2⟩:∃a,a=av7 (s.pc.hands.map anF):=⟨_,rfl⟩
 obtain⟨m,c⟩:∃a,a=av7 (s.fs.map Fs.dv):=⟨_,rfl⟩
 obtain⟨n,d⟩:∃a,a=av7 (s.dvd.cir.map anF):=⟨_,rfl⟩
 obtain⟨o,e⟩:∃a,a=av7 (s.cal.cy.map anF):=⟨_,rfl⟩
 have q:k≠2:=e2▸aGc _;have r:m≠2:=c▸aGc _;have u:n≠2:=d▸aGc _;have v:o≠2:=e▸aGc _;rw[Su.aOH];rw[<-e2]at h2⊢;rw[<-c]at g⊢;rw[<-d]at i⊢;rw[<-e]at j⊢;refine ap3 aqC aDB ?_;simp only[aqC,aDB,aoB,RN,F,H,N,S];refine arE rfl rfl h1 (by simp) ?_;simp only[PV.shift,apR,RN,H,S]
 (repeat(refine a8 (by first|assumption|rfl|(simp;done)|(simp;omega)) ?_))
 refine arE rfl rfl h2 (by simp[q]) ?_;simp only[PV.shift,apR,aor,aox,RN,H,N,S]
 (repeat(refine a8 (by first|assumption|rfl|(simp;done)|(simp;omega)) ?_))
 refine arE rfl rfl p (by simp) ?_;simp only[PV.shift,apR,RN,H,S]
 (repeat(refine a8 (by first|assumption|rfl|(simp;done)|(simp;omega)) ?_))
 refine arE rfl rfl g (by simp[r]) ?_;simp only[PV.shift,apR,aor,aox,RN,H,N,S]
 (repeat(refine a8 (by first|assumption|rfl|(simp;done)|(simp;omega)) ?_))
 refine arE rfl rfl i (by simp[u]) ?_;simp only[PV.shift,apR,RN,H,S]
 (repeat(refine a8 (by first|assumption|rfl|(simp;done)|(simp;omega)) ?_))
 refine arE rfl rfl j (by simp[v]) ?_;simp only[PV.shift,apR,aor,aox,RN,H,S]
 (repeat(refine a8 (by first|assumption|rfl|(simp;done)|(simp;omega)) ?_))
 simp only[an6,aoq,aoI,RN,H];exact⟨[(0,0),(1,0),(2,0),(3,0),(4,0),(5,0)],⟨by simp[auV],by decide⟩,rfl,rfl⟩
def axh (l:List Int):(flat (l.map anF)).all aAh=true:=by
 simp only[flat,aN,bd,aE];intro x _;rfl
def aNH (s:Su):s.aOH.all apY=true:=by
 have f1:(flat (s.pc.links.map Lk.dv)).all aAh=true:=by simp only[flat,aN,bd,aE];intro x _;rfl
 have f2:(flat (s.tg.map Fr.dv)).all aAh=true:=by simp only[flat,aN,bd,aE];intro x _;rfl
 have a:(flat (s.fs.map Fs.dv)).all aAh=true:=by simp only[flat,aN,bd,aE];intro x _;rfl
 simp only[Su.aOH,aZ,be,aGP (axh _),aGP a,aY,aP];simp only[apY,f1,f2];rfl
variable{c:PV}{bs:List (Option (List PV))}{fz:List Nat}{ar:List (Option Arr)}{K:PV->Mem->Prop}
def aFj {W st1:Bool}{ys:List DV}{ex:Bool}(h:slN sz W c xs ar)(a:0<sz)(n:∀y∈ys,y.fits sz=true)(m:st1=true->ys≠[])(hl:xs.length+ys.length<=1073741824)
  (g:∀k ver st ar',(kOf c=some k\/k=ar.length)->ar'[k]?=some (some ⟨sz,xs++ys,ver,st⟩)->(∀j,j≠k->j<ar.length->ar'[j]?=ar[j]?)->ar.length<=ar'.length->st≠2->(st1=true->st=1)->K (.tsl k ver 0) ⟨bs,fz,ar'⟩):
  aqv sz st1 c (.d (.slice ex ys)) ⟨bs,fz,ar⟩ K:=by
 rcases h with⟨rfl,rfl⟩|⟨k,ver,st,rfl,l,h2,o⟩
 ·simp only[aqv,auD]
  refine⟨a,n,m,trivial,by simp,by simpa using hl,?_⟩;exact g _ _ _ _ (.inr rfl) (by simp;rfl) (fun j i b=>by rw[Y b]) (by simp) (by cases st1<;>simp) (fun e=>by simp[e])
 ·have f:k<ar.length:=(U.1 l).1
  simp only[aqv,auD,Mem.row,l,if_true];refine⟨a,n,m,trivial,h2,hl,?_⟩;exact g k (ver+1) _ _ (.inl rfl) (by simp[f];rfl) (fun j i _=>ae (Ne.symm i)) (by simp) (by cases st1<;>simp[h2]) (fun e=>by simp[e])
structure FrD (d:Nat) (ce cs ce' cs':PV) (M M':Mem):Prop where
 len:M.boxes.length<=M'.boxes.length
 aoc:M.anK.length<=M'.anK.length
 box:∀i,i<M.boxes.length->i≠d->M'.boxes[i]?=M.boxes[i]?
 fz:∀i,i<M.boxes.length->(i∈M'.fz↔i∈M.fz)
 row:∀k,k<M.anK.length->kOf ce≠some k->kOf cs≠some k->M'.anK[k]?=M.anK[k]?
 oe:∀k,kOf ce'=some k->kOf ce=some k\/M.anK.length<=k
 os:∀k,kOf cs'=some k->kOf cs=some k\/M.anK.length<=k
def FrD.trans {d:Nat}{ce cs ce' cs' b c:PV}{M M' M'':Mem}(h:FrD d ce cs ce' cs' M M')(h':FrD d ce' cs' b c M' M''):FrD d ce cs b c M M'':=
 {len:=ah h.len h'.len
  aoc:=ah h.aoc h'.aoc
  box:=fun i f hd=>(h'.box i (ak f h.len) hd).trans (h.box i f hd)
  fz:=fun i f=>(h'.fz i (ak f h.len)).trans (h.fz i f)
  row:=fun k a h1 h2=>(h'.row k (ak a h.aoc) (fun e=>(h.oe k e).elim h1 (by omega)) (fun e=>(h.os k e).elim h2 (by omega))).trans (h.row k a h1 h2)
  oe:=fun k a=>(h'.oe k a).elim (fun e=>h.oe k e) (fun e=> .inr (ah h.aoc e))
  os:=fun k a=>(h'.os k a).elim (fun e=>h.os k e) (fun e=> .inr (ah h.aoc e))}
variable{d:Nat}{M:Mem}
def Frm.frD {ce cs:PV}{M':Mem}(h:Frm M M'):FrD d ce cs ce cs M M':=
 ⟨h.len,h.aoc,fun i a _=>h.box i a,h.fz,fun k b _ _=>h.row k b,fun _=> .inl,fun _=> .inl⟩
variable{D:Dk}{ar':List (Option Arr)}
def aqR.aZF {ce cs:PV}(h:aqR D d ce cs ⟨bs,fz,ar⟩){k ver st:Nat}{es:List En}(hk:kOf ce=some k\/k=ar.length)(h1:ar'[k]?=some (some ⟨2,es.map En.dv,ver,st⟩))
  (h2:∀j,j≠k->j<ar.length->ar'[j]?=ar[j]?)(hl:ar.length<=ar'.length)(hst:st≠2):
  aqR {D with es:=es} d (.tsl k ver 0) cs ⟨bs.set d (some (apg D.su (.tsl k ver 0) cs)),fz,ar'⟩/\FrD d ce cs (.tsl k ver 0) cs ⟨bs,fz,ar⟩ ⟨bs.set d (some (apg D.su (.tsl k ver 0) cs)),fz,ar'⟩:=by
 have c:d<bs.length:=(U.1 h.box).1;have b:∀j,kOf cs=some j->j≠k:=fun j a e=>by
  subst e
  rcases hk with hk|hk
  ·exact h.dif j hk a
  ·have:=aw8 h.str a;simp only at this;omega
 constructor
 ·exact
  {box:=by simp[c]
   ent:= .inr ⟨k,ver,st,rfl,h1,hst,fun e=>by cases e⟩
   str:=auj h.str fun j A a f=>(h2 j (b j a) (U.1 f).1).trans f
   dif:=fun j a e=>by cases a;exact b _ e rfl
   nb:=h.nb
   fzb:=fun i l=>by have:=h.fzb i l;simpa using this}
 ·exact
  {len:=by simp
   aoc:=hl
   box:=fun i _ hd=>by simp only;rw[ae (Ne.symm hd)]
   fz:=fun _ _=>aQ
   row:=fun j a g _=>h2 j (fun e=>by
    subst e
    rcases hk with hk|hk
    ·exact g hk
    ·simp only at a;omega) a
   oe:=fun j a=>by
    cases a
    rcases hk with hk|hk
    ·exact .inl hk
    ·exact .inr (by simp only;omega)
   os:=fun _=> .inl}
def aqR.aZH {ce cs:PV}(h:aqR D d ce cs ⟨bs,fz,ar⟩){k ver:Nat}{l:List Bool}(hk:kOf cs=some k\/k=ar.length)(h1:ar'[k]?=some (some ⟨1,l.map .bool,ver,1⟩))
  (h2:∀j,j≠k->j<ar.length->ar'[j]?=ar[j]?)(hl:ar.length<=ar'.length):
  aqR {D with st:=l} d ce (.tsl k ver 0) ⟨bs.set d (some (apg D.su ce (.tsl k ver 0))),fz,ar'⟩/\FrD d ce cs ce (.tsl k ver 0) ⟨bs,fz,ar⟩ ⟨bs.set d (some (apg D.su ce (.tsl k ver 0))),fz,ar'⟩:=by
 have c:d<bs.length:=(U.1 h.box).1;have b:∀j,kOf ce=some j->j≠k:=fun j a e=>by
  subst e
  rcases hk with hk|hk
  ·exact h.dif j a hk
  ·have:=aw8 h.ent a;simp only at this;omega
 constructor
 ·exact
  {box:=by simp[c]
   ent:=auj h.ent fun j A a f=>(h2 j (b j a) (U.1 f).1).trans f
   str:= .inr ⟨k,ver,1,rfl,h1,by decide,fun _=> .inl rfl⟩
   dif:=fun j a e=>by cases e;exact b _ a rfl
   nb:=h.nb
   fzb:=fun i m=>by have:=h.fzb i m;simpa using this}
 ·exact
  {len:=by simp
   aoc:=hl
   box:=fun i _ hd=>by simp only;rw[ae (Ne.symm hd)]
   fz:=fun _ _=>aQ
   row:=fun j a _ g=>h2 j (fun e=>by
    subst e
    rcases hk with hk|hk
    ·exact g hk
    ·simp only at a;omega) a
   oe:=fun _=> .inl
   os:=fun j a=>by
    cases a
    rcases hk with hk|hk
    ·exact .inl hk
    ·exact .inr (by simp only;omega)}
def De.aKE:De->Option Nat
 | .strike n=>some n.toNat
 | _=>none
def Dk.with (D:Dk)(x:En):Dk:=match x.deed.aKE with
 |some n=>{D with es:=D.es++ [x],st:=D.st.set n true++ [false]}
 |none=>{D with es:=D.es++ [x],st:=D.st++ [false]}
def Dk.enter (D:Dk)(x:En):Dk×Int:=
 if x.formed=false then(D,2)else if D.es.length=24 then(D,3)else if D.apj x.deed=false then(D,2)else if D.goes x.deed then(D.with x,0)else(D,7)
def Frm.aTJ {a:List (Option (List PV))}{b:List Nat}{x y:Option (List PV)}{i:Nat}(h:Frm M ⟨a,b,ar'⟩)(hi:M.boxes.length<=i):Frm M ⟨(a++ [x]).set i y,b,ar'⟩:=
 {len:=by have:=h.len;simp only[aG,V]at this⊢;omega
  aoc:=h.aoc
  box:=fun j c=>by
   have h1:=h.len;have h2:=h.box j c;simp only at h1 h2⊢;rw[ae (by omega),Y (by omega)];exact h2
  fz:=h.fz
  row:=h.row
  fzb:=fun e j c=>by have:=h.fzb e j c;simp only[aG,V]at this⊢;omega}
def aPI (h:D.Ok)(x:En)(hf:x.formed=true)(hb:D.apj x.deed=true)(hl:D.es.length≠24):(D.with x).Ok:=by
 have b:=aI2 hf hb;have h1:=h.few;unfold Dk.with
 cases x.deed.aKE<;>simp only
 ·exact⟨h.su,by simp[h.len],by simp;omega,fun y a=>by
   rcases am.1 a with a|a
   ·exact h.formed y a
   ·simp only[aj]at a;rw[a];exact hf,fun y a=>by
   rcases am.1 a with a|a
   ·exact h.fine y a
   ·simp only[aj]at a;rw[a];exact b⟩
 ·exact⟨h.su,by simp[h.len],by simp;omega,fun y a=>by
   rcases am.1 a with a|a
   ·exact h.formed y a
   ·simp only[aj]at a;rw[a];exact hf,fun y a=>by
   rcases am.1 a with a|a
   ·exact h.fine y a
   ·simp only[aj]at a;rw[a];exact b⟩
def aKj (h:D.Ok)(x:En):(D.enter x).1.Ok:=by
 unfold Dk.enter
 split
 ·exact h
 split
 ·exact h
 split
 ·exact h
 split
 ·rename_i h1 h2 a _
  exact aPI h x (by simpa using h1) (by simpa using a) h2
 ·exact h
def aqR.row {D:Dk}{d k ver:Nat}{ce:PV}{bs:List (Option (List PV))}{fz:List Nat}{ar:List (Option Arr)}(h:aqR D d ce (.tsl k ver 0) ⟨bs,fz,ar⟩)(hk:k<ar.length)(l:List Bool):
  aqR {D with st:=l} d ce (.tsl k ver 0) ⟨bs,fz,ar.set k (some ⟨1,l.map .bool,ver,1⟩)⟩/\FrD d ce (.tsl k ver 0) ce (.tsl k ver 0) ⟨bs,fz,ar⟩ ⟨bs,fz,ar.set k (some ⟨1,l.map .bool,ver,1⟩)⟩:=by
 constructor
 ·exact
  {box:=h.box
   ent:=auj h.ent fun j A a c=>by
    simp only;rw[ae (fun e=>by subst e;exact h.dif _ a rfl)];exact c
   str:= .inr ⟨k,ver,1,rfl,by simp[hk],by decide,fun _=> .inl rfl⟩
   dif:=h.dif
   nb:=h.nb
   fzb:=h.fzb}
 ·exact
  {len:=aq _
   aoc:=by simp
   box:=fun _ _ _=>rfl
   fz:=fun _ _=>aQ
   row:=fun j a _ b=>by simp only;rw[ae (fun e=>b (by rw[e];rfl))]
   oe:=fun _=> .inl
   os:=fun _=> .inl}
def avY {x:En}(h:x.formed=true):x.ns.length<=3:=by
 simp only[En.formed,ap,decide_eq_true_eq]at h;have:=aJi x.kind;omega
def aJR (c:PV)(xs:List DV)(ar:List (Option Arr)):Prop:=(∃ex,c= .d (.slice ex xs))\/∃k v t,c= .tsl k v 0/\ar[k]?=some (some ⟨1,xs,v,t⟩)
def aRT (h:aJR c xs ar):PV.one c=true/\PV.cells c=[c]/\∃ex,∀bs fz,datum ⟨bs,fz,ar⟩ c=some (.slice ex xs):=by
 rcases h with⟨ex,rfl⟩|⟨k,v,t,rfl,h⟩
 ·exact⟨rfl,rfl,ex,fun _ _=>rfl⟩
 ·exact⟨rfl,rfl,false,fun _ _=>aOf h⟩
def aRS (h:aJR c xs ar)(a:Int):av5 [pI a,c]=aIL (br (fun y=>dI a::y) (apx [c])) [pI a,c]/\(aIL (br (fun y=>dI a::y) (apx [c])) [pI a,c]).cells=[pI a,c]/\(aIL (br (fun y=>dI a::y) (apx [c])) [pI a,c]).asO=false/\∃ex,∀bs fz,datum ⟨bs,fz,ar⟩ (aIL (br (fun y=>dI a::y) (apx [c])) [pI a,c])=some (.agg [dI a, .slice ex xs]):=by
 rcases h with⟨ex,rfl⟩|⟨k,v,t,rfl,h⟩
 ·exact⟨rfl,rfl,rfl,ex,fun _ _=>rfl⟩
 ·exact⟨rfl,rfl,rfl,false,fun _ _=>by show datum _ (.agg [pI a, .tsl k v 0])=_;simp[datum,aoi,aoO,Mem.row,h]⟩
def aOi (h:aJR c xs ar)(hk:∀k,kOf c=some k->k<ar.length->ar'[k]?=ar[k]?):aJR c xs ar':=by
 rcases h with h|⟨k,v,t,rfl,h⟩
 ·exact .inl h
 ·exact .inr ⟨k,v,t,rfl,(hk k rfl (U.1 h).1).trans h⟩
def De.aFM (y:De):aFM y.dv=true:=by cases y<;>rfl
def aDt:anH:=
     (.seq
     (.region true [
      of 45 (.load false 1) [.t 2] 2,
      of 46 (.load false 1) [.t 2] 2,
      oa 47 .an8 46,
      of 48 (.fld 2) [.t 47] 2,
      of 49 (.load false 1) [.t 48] 2,
      of 50 (.fld 0) [.t 3] 2,
      of 51 (.load false 1) [.t 50] 2,
      of 52 (.fld 1) [.t 3] 2,
      of 53 (.load false 1) [.t 52] 2,
      oa 54 (.auN 114) 53,
      ob 55 (.build [dI 0, .slice true []] [(0,1),(1,1)]) 51 54,
      of 56 (.aoM 2 [.agg [dI 0, .slice true []]] [0]) [.t 55] 1,
      ob 57 (.app 2 false) 49 56,
      oa 58 .an8 45,
      of 59 (.fld 2) [.t 58] 2,
      os (.store 1) [.t 59, .t 57] 0] 0 [2] [])
     (.seq
      (.region true [
       of 60 (.load false 1) [.t 2] 2,
       of 61 (.load false 1) [.t 2] 2,
       oa 62 .an8 61,
       of 63 (.fld 3) [.t 62] 2,
       of 64 (.load false 1) [.t 63] 2,
       of 65 (.aoM 1 [.bool false] [0]) [.c (.bool false)] 1,
       ob 66 (.app 1 true) 64 65,
       oa 67 .an8 60,
       of 68 (.fld 3) [.t 67] 2,
       os (.store 1) [.t 68, .t 66] 0] 0 [] [])
      (.seq
      (rg [
       mk 4 (kI 0)] 0 [4])
      .ret)))
def aDX {ce cs:PV}(h:aqR D d ce cs ⟨bs,fz,ar⟩)(x:En)(hx:x.ns.length<=1000)(W:D.es.length<=1000)(X:D.st.length<=1000){pb:Nat}(w:bs[pb]?=some (some [.ptr d 0]))(z:pb≠d){xb:Nat}{c:PV}(m:bs[xb]?=some (some [pI x.kind,c]))(hc:aJR c (x.ns.map anF) ar){nb na:Nat}{Q:Ex->St->Prop}
  (V:∀ce' cs' M',aqR {D with es:=D.es++ [x],st:=D.st++ [false]} d ce' cs' M'->FrD d ce cs ce' cs' ⟨bs,fz,ar⟩ M'->Q .ret ⟨[(4,pI 0)],M'⟩):
  pwp C nb na aDt Q ⟨[(2, .ptr pb 0),(3, .ptr xb 0)],⟨bs,fz,ar⟩⟩:=by
 have a:=h.box;rw[apg]at a;simp only at a;have v:d<bs.length:=(U.1 a).1;have A:pb<bs.length:=(U.1 w).1;have i:=h.nb;simp only at i;obtain⟨o1,o2,o3⟩:=aOO h.ent;obtain⟨u1,u2,u3⟩:=aOO h.str;have t:=axS (x.ns.map anF) aqU (by simp;omega);have a0C:xb<bs.length:=(U.1 m).1;obtain⟨p1,p2,ex,u⟩:=aRT hc;rw[aDt];simp only[w,A,v,a,m,a0C,RN,F,H,S];refine aOd (asT (u _ _)) rfl t rfl (by simp only[aZ,be,aGP (axh _),aY]) rfl ?_;simp only[DV.strip,RN,F,H,S];refine aFj h.ent (by decide) (by intro y n;simp only[aj]at n;subst n;rfl) (by simp) (by simp;omega) fun k ver st o G I J K L _=> ?_
 obtain⟨e,E⟩:=h.aZF (k:=k) (ver:=ver) (st:=st) (es:=D.es++ [x]) (ar':=o) G (by rw[I];simp[aon]) J K L;simp only[a,i,aor,aox,RN,H,S];obtain⟨B,q⟩:∃B,B=bs.set d (some (apg D.su (.tsl k ver 0) cs)):=⟨_,rfl⟩
 have r:bs.set d (some [.d (.anY D.su.cs), .d (sF (D.su.days.map awJ)), .tsl k ver 0,cs])=B:=by rw[q,apg]
 rw[<-q]at e E;simp only[r];have b:=e.box;rw[apg]at b;simp only at b;have s:d<B.length:=(U.1 b).1;have f:=e.nb;simp only at f;have g:B[pb]?=some (some [.ptr d 0]):=by rw[q,ae (Ne.symm z)];exact w
 have aZ4:pb<B.length:=(U.1 g).1;simp only[g,aZ4,s,b,aqz,RN,H,S];refine aFj e.str (by decide) (by intro y n;simp only[aj]at n;subst n;rfl) (by simp) (by simp;omega) fun Y aN2 Z p b1 M N O b5 P=> ?_
 have j:=P rfl;subst j;obtain⟨R,T⟩:=e.aZH (k:=Y) (ver:=aN2) (l:=D.st++ [false]) (ar':=p) b1 (by rw[M];simp) N O;simp only[b,f,aor,aox,RN,H,S];refine V _ _ _ R ?_;rw[<-apg];exact E.trans T
def aIk:anH:=
(.seq
 (rg [
  oa 2 (.box 0) 0,
  oa 3 (.box 1) 1,
  mk 4 (kI 0)] 2 [2,3])
 (.seq
 (.seq
  (rg [
   lo 9 2,
   oa 10 (.apl 69) 9,
   oa 11 (.un .not) 10] 0 [2,3,11])
  (.cond (.t 11)
  (.seq
   (rg [
    mk 4 (kI 1)] 0 [4])
   .ret)
  .skip))
 (.seq
  (.seq
  (rg [
   oa 12 (.load true 2) 3,
   oa 13 (.apl 110) 12,
   oa 14 (.un .not) 13] 0 [2,3,14])
  (.cond (.t 14)
   (.seq
   (rg [
    mk 4 (kI 2)] 0 [4])
   .ret)
   .skip))
  (.seq
  (.seq
   (rg [
    lo 15 2,
    oa 16 .an8 15,
    oa 17 (.fld 2) 16,
    lo 18 17,
    oa 19 .len 18,
    oc 20 (.bin .eql) 19 (kI 24)] 0 [2,3,20])
   (.cond (.t 20)
   (.seq
    (rg [
     mk 4 (kI 3)] 0 [4])
    .ret)
   .skip))
  (.seq
   (.region false [
    oa 21 (.load true 2) 3,
    oa 22 (.auN 111) 21,
    on 5 (.alloc 0 [.nilIface]) [],
    os (.store 1) [.t 5, .t 22] 0] 1 [2,3,5] [5])
   (.seq
   (.seq
    (rg [
     lo 23 5,
     lo 24 2,
     ob 25 (.inv "tellurion/journeyman.fine") 23 24,
     oa 26 (.un .not) 25] 0 [2,3,5,26])
    (.cond (.t 26)
    (.seq
     (rg [
      mk 4 (kI 2)] 0 [4])
     .ret)
    .skip))
   (.seq
    (rg [
     ob 27 (.mkF (.func 112) 0) 5 2,
     oa 28 (.call 72) 27,
     mv 6 28] 0 [2,3,5,6])
    (.seq
    (.seq
     (rg [
      mv 29 6,
      oc 30 (.bin .neq) 29 (kI 0)] 0 [2,3,5,6,30])
     (.cond (.t 30)
     (.seq
      (rg [
       mv 31 6,
       mv 4 31] 0 [4])
      .ret)
     .skip))
    (.seq
     (.seq
     (.region false [
      lo 33 5,
      oa 34 (.tas T.aoe (.agg [dI 0])) 33,
      mv 32 34,
      oa 35 (.ext 0) 32,
      oa 36 (.ext 1) 32,
      on 7 (.alloc 0 [dI 0]) [],
      os (.store 1) [.t 7, .t 35] 0,
      mv 8 36] 1 [2,3,7,8] [7])
     (.seq
      (rg [
       mv 37 8] 0 [2,3,7,37])
      (.cond (.t 37)
      (.region true [
       of 38 (.load false 1) [.t 2] 2,
       oa 39 .an8 38,
       of 40 (.fld 3) [.t 39] 2,
       of 41 (.load false 1) [.t 40] 2,
       of 42 (.fld 0) [.t 7] 1,
       of 43 (.load false 1) [.t 42] 1,
       ob 44 (.anU 1) 41 43,
       os (.store 1) [.t 44, .c (.bool true)] 3] 0 [2,3] [])
      .skip)))
     aDt)))))))))
def aLc:asB=aIk:=rfl
def aHD {ce cs:PV}(h:aqR D d ce cs M)(q:D.Ok)(x:En){c:PV}(hc:aJR c (x.ns.map anF) M.anK)(aE:∀k,kOf c=some k->kOf cs≠some k){KP:DV->Mem->Prop}:
  SC C 38 [.ptr d 0,av5 [pI x.kind,c]] M (fun p M'=>p= .d (dI (D.enter x).2)/\∃ce' cs',aqR (D.enter x).1 d ce' cs' M'/\FrD d ce cs ce' cs' M M') KP:=by
 obtain⟨bs,fz,ar⟩:=M;have o:=h.box;rw[apg]at o;simp only at o hc;obtain⟨p1,p2, -⟩:=aRT hc;obtain⟨y1,y2,y3,ey,X⟩:=aRS hc x.kind;rw[y1];have aB:d<bs.length:=(U.1 o).1;have ay5:∀i∈fz,i<bs.length:=h.fzb
 have aK:bs.length∉fz:=fun e=>ai _ (ay5 _ e)
 have aD:∀k,bs.length+k∉fz:=fun k e=>by have:=ay5 _ e;omega
 have aF:¬d=bs.length:=by omega
 have aI:∀k,¬d=bs.length+k:=fun k=>by omega
 have aJ:∀k,d<bs.length+k:=fun k=>by omega
 have aL:¬bs.length+1=bs.length:=by omega
 have aM:¬bs.length+2=bs.length:=by omega
 have aN:¬bs.length+2=bs.length+1:=by omega
 have s:Frm ⟨bs,fz,ar⟩ ⟨bs++ [some [.ptr d 0],some [pI x.kind,c]],fz,ar⟩:=Frm.new (xf:=[]) (by simp);obtain⟨e1,e2,aC⟩:=ayV (h.frm s);have aj:=aF2 x;rw[aon]at aj;have ac:D.es.length<=24:=q.few;have ax:D.st.length<=24:=by rw[<-q.len];exact q.few
 refine anJ asB anO ?_;rw[aLc];simp only[aIk,anO,apA,anZ,aqP,aoo,V,aG,axa,aF0,y2,y3,RN,F,H,S];refine ap8 (asT aC) rfl (aF3 e1 e2 D) rfl ?_;simp only[apA,V,RN,F,H,S];refine ap8 (asT (X _ _)) rfl aj rfl ?_;cases f:x.formed
 ·(try simp only[RN,F])
  have u:D.enter x=(D,2):=by simp[Dk.enter,f]
  rw[u];exact⟨rfl,_,_,h.frm s,s.frD⟩
 simp only[o,aB,aoF,anZ,V,RN,F,H,S];rw[aJF h.ent]
 by_cases r:D.es.length=24
 ·have hb:(((D.es.map En.dv).length:Int)==24)=true:=by simp[r]
  simp only[hb,RN,F];have u:D.enter x=(D,3):=by simp[Dk.enter,f,r]
  rw[u];exact⟨rfl,_,_,h.frm s,s.frD⟩
 have hb:(((D.es.map En.dv).length:Int)==24)=false:=by simp;omega
 have W:=aFC x (awL f);rw[aon]at W;simp only[hb,apA,ao,V,RN,F,H,S];refine aUv (asT (X _ _)) rfl W (De.aFM _) ?_;have a0g:=(De.one x.deed).1;have a0h:=(De.one x.deed).2;simp only[a0g,a0h,apA,anZ,aqP,V,aD,RN,F,H,S];have j:Frm ⟨bs,fz,ar⟩ ⟨bs++ [some [.ptr d 0],some [pI x.kind,c],some [.d x.deed.dv]],(bs.length+2)::fz,ar⟩:=Frm.new (xf:=[bs.length+2]) (by simp);refine aR3 (h.frm j) q x.deed ?_;cases m:D.apj x.deed
 ·(try simp only[RN,F])
  have u:D.enter x=(D,2):=by simp[Dk.enter,f,r,m]
  rw[u];exact⟨rfl,_,_,h.frm j,j.frD⟩
 have aA:aqG D.su D.su.sp0 x.deed:=aI2 f m;simp only[arl,aH,RN,F];obtain⟨B,O⟩:∃B,B=bs++ [some [.ptr d 0],some [pI x.kind,c],some [.d x.deed.dv]]:=⟨_,rfl⟩
 obtain⟨Z,hZ⟩:∃Z,Z=(bs.length+2)::fz:=⟨_,rfl⟩
 have P:B.length=bs.length+3:=by rw[O];simp
 have Q:B[bs.length]?=some (some [.ptr d 0]):=by rw[O,anZ rfl];rfl
 have ay:B[bs.length+1]?=some (some [pI x.kind,c]):=by rw[O,apA rfl];rfl
 rw[<-O,<-hZ]at j;simp only[<-O,<-hZ];have az:Frm ⟨B,Z,ar⟩ ⟨B++ [some [pI 0]],Z,ar⟩:=Frm.new (xf:=[]) (by simp);have aMU:=j.trans az;have z0:((0:Int) !=0)=false:=rfl;have z7:((7:Int) !=0)=true:=rfl;refine aFe (fs:=[]) (cs:=[.d (.anY [x.deed.dv]), .ptr bs.length 0]) (j.fzb h.fzb) (by kernel_rfl) ?_;refine SC.aqk (SC.mono (aPH (h.frm aMU) q x.deed m aA (pb:=bs.length) ?_) ?_) ?_
 ·simp only;rw[Y (by omega)];exact Q
 ·rintro v ⟨a,g,ar'⟩ ⟨g1,A⟩
  have b:=aMU.trans A;have R:=h.frm b;have J:=b.len;simp only at J;have z:a[bs.length]?=some (some [.ptr d 0]):=by
   have:=A.box bs.length (by simp only[V,P];omega);simp only at this;rw[this,Y (by omega)];exact Q
  have K:a[bs.length+1]?=some (some [pI x.kind,c]):=by
   have:=A.box (bs.length+1) (by simp only[V,P];omega);simp only at this;rw[this,Y (by omega)];exact ay
  have an:aJR c (x.ns.map anF) ar':=aOi hc fun k _ h2=>b.row k h2
  have E:a[B.length]?=some (some [pI 0]):=by
   have:=A.box B.length (by simp);simp only at this;rw[this,anZ rfl];rfl
  have G:B.length∉g:=fun e=>by
   have:=(A.fz B.length (by simp)).1 e;simp only at this;have h5:=j.fzb h.fzb _ this;simp only at h5;omega
  refine⟨E,G,?_⟩;have u:D.enter x=(D.with x,0):=by simp[Dk.enter,f,r,m,g1]
  rw[u];have aSg:=R.fzb;have w:a.length∉g:=fun e=>ai _ (aSg _ e)
  have am:bs.length≠d:=by omega
  have aZx:bs.length+1<a.length:=(U.1 K).1;have aX5:bs.length<a.length:=(U.1 z).1;simp only[z0,RN,F,S]
  by_cases N:∃n,x.deed= .strike n
  ·obtain⟨n,N⟩:=N
   have hx:(De.strike n).dv= .iface T.aoe (.agg [dI n]):=rfl;have L:(0<=n/\n<=(D.es.length:Int) - 1)/\n.toNat<D.st.length:=by
    rw[N]at m;simp only[Dk.apj,inR,ap,decide_eq_true_eq]at m;have:=q.len;omega
   have aXQ:=R.box;rw[apg]at aXQ;simp only at aXQ;have a0e:d<a.length:=by omega
   obtain⟨k2,aN2,aO,rfl,ak,_,t⟩:=az6 h.str (by intro e;simp at e;rw[e]at L;simp at L);have t:=t rfl;subst t;have I:ar'[k2]?=some (some ⟨1,D.st.map .bool,aN2,1⟩):=(b.row k2 (U.1 ak).1).trans ak;have a0n:=(U.1 I).1;have a0f:∀k,d<a.length+k:=fun k=>by omega
   have a0z:∀k,bs.length<a.length+k:=fun k=>by omega
   rw[N,hx];simp only[arB,z,aXQ,a0e,aX5,a0f,a0z,aoF,anZ,aoo,w,V,I,L.1.1,L.2,ab,RN,F,H,S];refine awx (ds:=[.bool true]) I rfl (by decide) rfl rfl (by rw[getD_map L.2];exact aq 1) ?_;have av:(D.st.map DV.bool).set n.toNat (setCells ((D.st.map DV.bool).getD n.toNat default) 0 [.bool true])=(D.st.set n.toNat true).map .bool:=by
    rw[bw,getD_map L.2];rfl
   rw[av];have l:Frm ⟨bs,fz,ar⟩ ⟨a++ [some [pI n]],a.length::g,ar'⟩:=b.trans (Frm.new (xf:=[a.length]) (by simp));obtain⟨q3,q4⟩:=(h.frm l).row a0n (D.st.set n.toNat true);refine aDX q3 x (by have:=avY f;omega) (ah ac (by decide)) (by rw[aG];exact ah ax (by decide)) (pb:=bs.length) (by rw[Y aX5];exact z) am (xb:=bs.length+1) (c:=c) (by rw[Y aZx];exact K) (aOi an fun k h1 _=>ae (fun e=>aE k h1 (by rw[<-e];rfl))) fun ce' cs' M' q1 q2=> ?_
   (try simp only[RN]);have hw:D.with x={D with es:=D.es++ [x],st:=D.st.set n.toNat true++ [false]}:=by
    unfold Dk.with
    rw[N];rfl
   rw[hw];exact⟨_,_,q1,(l.frD.trans q4).trans q2⟩
  ·have hy:∀n,x.deed≠ .strike n:=fun n e=>N ⟨n,e⟩
   have hx:x.deed.dv= .iface x.deed.ty x.deed.cs:=rfl;rw[hx];simp only[ao4 (aWR hy),anZ,aoo,w,V,RN,F,S];have l:Frm ⟨bs,fz,ar⟩ ⟨a++ [some [pI 0]],a.length::g,ar'⟩:=b.trans (Frm.new (xf:=[a.length]) (by simp));refine aDX (h.frm l) x (by have:=avY f;omega) (ah ac (by decide)) (ah ax (by decide)) (pb:=bs.length) (by rw[Y aX5];exact z) am (xb:=bs.length+1) (c:=c) (by rw[Y aZx];exact K) an fun ce' cs' M' q1 q2=> ?_
   (try simp only[RN]);have hw:D.with x={D with es:=D.es++ [x],st:=D.st++ [false]}:=by
    unfold Dk.with
    cases hd:x.deed with
    |strike n=>exact absurd hd (hy n)
    | _=>rfl
   rw[hw];exact⟨_,_,q1,l.frD.trans q2⟩
 ·rintro dd ⟨a,g,ar'⟩ ⟨g1,A,g3⟩
  have b:=aMU.trans g3;have J:=g3.len;simp only[V,aw,au]at J;have E:a[B.length]?=some (some [pI 0]):=by
   have:=g3.box B.length (by simp);simp only at this;rw[this,anZ rfl];rfl
  have G:B.length∉g:=fun e=>by
   have:=(g3.fz B.length (by simp)).1 e;simp only at this;have h5:=j.fzb h.fzb _ this;simp only at h5;omega
  have aSg:=b.fzb h.fzb;have w:a.length∉g:=fun e=>ai _ (aSg _ e)
  have u:D.enter x=(D,7):=by simp[Dk.enter,f,r,m,g1]
  refine⟨E,G,w, .inl ⟨A,fun y=> ?_⟩⟩;rw[u];simp only[z7,RN,F];have l:Frm ⟨bs,fz,ar⟩ ⟨(a++ [y]).set B.length (some [pI 7]),g,ar'⟩:=b.aTJ (by simp only;omega);exact⟨_,_,h.frm l,l.frD⟩
def aQ6 {ce cs:PV}(h:aqR D d ce cs M)(a:D.Ok)(x:En){KP:DV->Mem->Prop}:
  SC C 38 [.ptr d 0, .d x.dv] M (fun p M'=>p= .d (dI (D.enter x).2)/\∃ce' cs',aqR (D.enter x).1 d ce' cs' M'/\FrD d ce cs ce' cs' M M') KP:=by
 have:=aHD h a x (.inl ⟨false,rfl⟩) (fun _ h=>by cases h) (KP:=KP);rw[aon];exact this
def arQ (f1 f2 e1 e2:Bool)(D:Dk)(t:Sp):List DV:=[.anY (t.cells f1 f2 D.su), .anY (aAa e1 e2 D)]
def avm (f1 f2 e1 e2:Bool)(D:Dk)(t:Sp):DV:= .agg (arQ f1 f2 e1 e2 D t)
def apQ {f1 f2 e1 e2:Bool}{t:Sp}:avm f1 f2 e1 e2 D t= .agg [.anY (t.cells f1 f2 D.su), .anY (aAa e1 e2 D)]:=rfl
def Ans (f:FuncId)(ds:List DV)(l:List Int)(e:Int):Prop:=
 Pure C f ds (.tup [.tsl 0 0 0,pI e]) [⟨1,l.map anF,0,avk l⟩]\/(l=[]/\Pure C f ds (.d (.tup [.slice true [],dI e])) [])
variable{f:FuncId}{ds:List DV}{l:List Int}{e:Int}
def apq (a:SC C f (ds.map .d) aok (fun p M=>∃c,p= .tup [c,pI e]/\aBn M c 1 (l.map anF) (avk l)) (fun _ _=>False)):Ans f ds l e:=by
 refine .inl (ayc (SC.mono a fun p M h=> ?_));obtain⟨c,rfl,k,ver,rfl,h⟩:=h;refine⟨[(k,0)],⟨fun q b=>by simp only[aj]at b;subst b;simp[auV,h],by simp⟩,?_,?_⟩
 ·simp[ren,aTi,aGJ,Mem.row,h,aCD]
 ·simp[mkRow,h]
def awG (hl:l=[])(h:Pure C f ds (.d (.tup [.slice true [],dI e])) []):Ans f ds l e:= .inr ⟨hl,h⟩
variable{base:Nat}{KP:DV->Mem->Prop}
def avX {C:Ctx}{z:DV}{k:IntKind}{n:Int}:anG C base (.arY 1 [z] [0]) [.d (.int k n)] M K KP=K (.tsl M.anK.length 0 0) {M with anK:=M.anK++ [some ⟨1,[.int k n],0,1⟩]}:=
 azV rfl (by decide)
def aMF {C:Ctx}{z1 b:DV}{k k':IntKind}{n a:Int}:anG C base (.arY 1 [z1,b] [0,1]) [.d (.int k n), .d (.int k' a)] M K KP=K (.tsl M.anK.length 0 0) {M with anK:=M.anK++ [some ⟨1,[.int k n, .int k' a],0,1⟩]}:=by
 simp[anG,apx,auq,DV.strip,DV.cells,DV.fits,DV.one]
def aMG {C:Ctx}{z1 e f:DV}{k k' a:IntKind}{n b c:Int}:anG C base (.arY 1 [z1,e,f] [0,1,2]) [.d (.int k n), .d (.int k' b), .d (.int a c)] M K KP=K (.tsl M.anK.length 0 0) {M with anK:=M.anK++ [some ⟨1,[.int k n, .int k' b, .int a c],0,1⟩]}:=by
 simp[anG,apx,auq,DV.strip,DV.cells,DV.fits,DV.one]
section
variable (f1 f2 e1 e2:Bool){D:Dk}{t:Sp}(ns:List Int)
def aYr:Ans 85 [avm f1 f2 e1 e2 D t,sF (ns.map anF)] [t.aqy] 0:=by
 refine apq (anJ as3 aoj ?_);simp only[as3,aoj,apQ,aom,avX,an6,aoz,RN,F,H,S];exact⟨_,rfl,0,0,rfl,rfl⟩
def aXa (a:D.Ok)(d:ns.length=1):Ans 84 [avm f1 f2 e1 e2 D t,sF (ns.map anF)] [(D.su.dvd.cuts (ns.getD 0 default)).1.circle,(D.su.dvd.cuts (ns.getD 0 default)).1.turns,(D.su.dvd.cuts (ns.getD 0 default)).1.holes] (D.su.dvd.cuts (ns.getD 0 default)).2:=by
 have b:=aL2 D.su.dvd (ns.getD 0 default) (by have:=(Su.az7 a.su).ci;omega);rw[atm,aBv]at b;have c:0<ns.length:=by omega
 refine apq (anJ as2 aoj ?_);simp only[as2,aoj,apQ,aom,j0,t0,c,ab,getD_map,anM,RN,F,H,I,S];refine anE b ?_;simp only[aMG,bC,an6,aoz,RN,F,H,J,S];exact⟨_,rfl,0,0,rfl,rfl⟩
def aW9 (d:D.Ok)(f:awD D.su 24 t)(h:ns.length=1):Ans 78 [avm f1 f2 e1 e2 D t,sF (ns.map anF)]
  (if inR (ns.getD 0 default) 0 (D.su.pc.hands.length - 1)then[aya D.su t (ns.getD 0 default).toNat]else[]) (if inR (ns.getD 0 default) 0 (D.su.pc.hands.length - 1)then 0 else 2):=by
 have b:=ay7 e1 e2 D (by have:=d.small;omega) (ns.getD 0 default);rw[atI]at b;have e:0<ns.length:=by omega
 cases h1:inR (ns.getD 0 default) 0 ((D.su.pc.hands.length:Int) - 1)
 ·refine awG (by simp) (am6 ap0 aoj ?_)
  simp only[ap0,aoj,apQ,j0,t0,e,ab,getD_map,anM,RN,F,H,S];refine anE b ?_;simp only[h1,RN,F];simp
 ·have hh:0<=ns.getD 0 default/\ns.getD 0 default<=(D.su.pc.hands.length:Int) - 1:=by simpa[inR]using h1
  obtain⟨a,c⟩:∃a:Nat,ns.getD 0 default=a:=⟨(ns.getD 0 default).toNat,by omega⟩
  have g:=aOA f1 f2 D.su t a f.pc (by rw[f.hh];omega);rw[c]at h1 b⊢;refine apq (anJ ap0 aoj ?_);simp only[ap0,aoj,apQ,j0,t0,e,ab,getD_map,anM,c,RN,F,H,S];refine anE b ?_;simp only[h1,j0,t0,e,ab,getD_map,anM,c,RN,F,H,S];refine anE g ?_;simp only[avX,an6,aoz,if_true,an,RN];exact⟨_,rfl,0,0,rfl,rfl⟩
end
def aqV:List Int->Int->Int->Int
 | [],_,l=>l
 |s::r,a,l=>aqV r a (if s<=a then s else l)
def Sp.turns (t:Sp)(day:Int):Int:=day - aqV t.sets day 0
def aBM (day:Int):∀(l:List Int) (a:Int),(∀d∈l,1<=d/\d<=366)->0<=a/\a<=366->0<=aqV l day a/\aqV l day a<=366
 | [],_,_,h=>h
 |s::r,a,b,h=>by
  have c:=b s aI;rw[aqV];refine aBM day r _ (fun d hd=>b d (aA _ hd)) ?_
  split<;>omega
section
variable (f1 f2 e1 e2:Bool){D:Dk}{t:Sp}(ns:List Int)
def aJZ (h:awD D.su 24 t)(day:Int)(hd:0<=day/\day<=1000000):Pure C 171 [avm f1 f2 e1 e2 D t,dI day] (pI (t.turns day)) []:=by
 have n:=h.se;refine am6 asG anO ?_;simp only[asG,anO,apQ,aom,ab,RN,F,H,S];refine anL t.sets.length (fun i (a:Int)=>⟨[(1,pI day),(5,pI a),(12, .d (.slice f2 (t.sets.map anF))),(13,pI t.sets.length),(14,pI i)],⟨[some [.d (.anY (t.cells f1 f2 D.su)), .d (.anY (aAa e1 e2 D))]],[0],[]⟩⟩)
  (fun i a=>aqV t.sets day 0=aqV (t.sets.drop i) day a/\0<=a/\a<=366) 0 0 (aS _) (by rw[aom];rfl) ⟨rfl,by decide,by decide⟩ (fun i a f e=> ?_) (fun a e=> ?_)
 ·obtain⟨l,m,g⟩:=rng f (by omega)
  obtain⟨c,j,k⟩:=e;rw[drop_cons f,aqV]at c;have p:=h.sv _ (getD_mem f);simp only[l,m,f,getD_map,anM,an,ab,RN,F,S]
  by_cases b:t.sets.getD i default<=day
  ·rw[if_pos b]at c
   simp only[b,g,RN,F];exact anT (t.sets.getD i default) f rfl ⟨c,by omega,by omega⟩
  ·rw[if_neg b]at c
   simp only[b,g,RN,F];exact anT a f rfl ⟨c,j,k⟩
 ·obtain⟨c,j,k⟩:=e
  rw[bB,aqV]at c;have o:bJ .i64 (day - a)=day - a:=anI (by omega);simp only[bo,o,RN,F];simp only[Sp.turns,c]
def aZJ (b:D.Ok)(f:awD D.su 24 t)(m:ns.length=2):Ans 80 [avm f1 f2 e1 e2 D t,sF (ns.map anF)]
  (if inR (ns.getD 0 default) 0 (D.su.pc.hands.length - 1)&&inR (ns.getD 1 default) 1 D.su.days.length then[(att t.pc (ns.getD 0 default) (t.tg.getD (ns.getD 0 default).toNat default) (t.turns (ns.getD 1 default))).1]else[])
  (if inR (ns.getD 0 default) 0 (D.su.pc.hands.length - 1)&&inR (ns.getD 1 default) 1 D.su.days.length then(att t.pc (ns.getD 0 default) (t.tg.getD (ns.getD 0 default).toNat default) (t.turns (ns.getD 1 default))).2 else 2):=by
 have c:=ay7 e1 e2 D (by have:=b.small;omega) (ns.getD 0 default);have hd:=aFd e1 e2 D (ns.getD 1 default);rw[atI]at c hd;have g:(0:Int)<=1:=by omega
 have d:0<ns.length:=by omega
 have l1:1<ns.length:=by omega
 have l:=b.small;cases h1:inR (ns.getD 0 default) 0 ((D.su.pc.hands.length:Int) - 1)
 ·refine awG (by simp) (am6 aoY aoj ?_)
  simp only[aoY,aoj,apQ,j0,t0,d,ab,getD_map,anM,RN,F,H,S];refine anE c ?_;simp only[h1,RN,F];simp
 cases h2:inR (ns.getD 1 default) 1 (D.su.days.length:Int)
 ·refine awG (by simp) (am6 aoY aoj ?_)
  simp only[aoY,aoj,apQ,j0,t0,d,ab,getD_map,anM,RN,F,H,S];refine anE c ?_;simp only[h1,g,t1,l1,ab,getD_map,anM,RN,F,H,S];refine anE hd ?_;simp only[h2,RN,F];simp
 have hh:0<=ns.getD 0 default/\ns.getD 0 default<=(D.su.pc.hands.length:Int) - 1:=by simpa[inR]using h1
 have j:1<=ns.getD 1 default/\ns.getD 1 default<=(D.su.days.length:Int):=by simpa[inR]using h2
 have i:=arn D.su;have k:=Pc.avi f.pc;have a:=aJZ f1 f2 e1 e2 (D:=D) f (ns.getD 1 default) (by omega);have h:=aN8 t.pc (by omega) (by omega) (ns.getD 0 default) (t.tg.getD (ns.getD 0 default).toNat default) (t.turns (ns.getD 1 default));have e:(ns.getD 0 default).toNat<t.tg.length:=by rw[f.tl];omega
 rw[apQ]at a;rw[aot,aoa]at h;simp only[aX,if_true];refine apq (anJ aoY aoj ?_);simp only[aoY,aoj,apQ,j0,t0,d,ab,getD_map,anM,RN,F,H,S];refine anE c ?_;simp only[h1,g,t1,l1,ab,getD_map,anM,RN,F,H,S];refine anE hd ?_;rw[aom]at a;simp only[h2,aom,j0,t0,d,g,t1,l1,ab,getD_map,anM,hh.1,e,aoa,RN,F,H,S];refine anE a ?_;(try simp only[RN,F,H,I,J,N,S]);refine anE h ?_;simp only[avX,an6,aoz,RN];exact⟨_,rfl,0,0,rfl,rfl⟩
def aXc (h:D.Ok)(s:ns.length=1):Ans 83 [avm f1 f2 e1 e2 D t,sF (ns.map anF)]
  (if inR (ns.getD 0 default) 1 D.su.days.length then[(ayT D.su.cal D.su.year.toNat (D.su.first+(ns.getD 0 default - 1))).m,(ayT D.su.cal D.su.year.toNat (D.su.first+(ns.getD 0 default - 1))).d]else[])
  (if inR (ns.getD 0 default) 1 D.su.days.length then 0 else 2):=by
 have hd:=aFd e1 e2 D (ns.getD 0 default);rw[atI]at hd;have j:0<ns.length:=by omega
 cases h2:inR (ns.getD 0 default) 1 (D.su.days.length:Int)
 ·refine awG (by simp) (am6 ap1 aoj ?_)
  simp only[ap1,aoj,apQ,j0,t0,j,ab,getD_map,anM,RN,F,H,S];refine anE hd ?_;simp only[h2,RN,F];simp
 have n:1<=ns.getD 0 default/\ns.getD 0 default<=(D.su.days.length:Int):=by simpa[inR]using h2
 have l:=arn D.su;obtain⟨a,e⟩:∃a:Nat,ns.getD 0 default=((a+1:Nat):Int):=⟨(ns.getD 0 default - 1).toNat,by omega⟩
 have b:a<D.su.days.length:=by omega
 have r:bJ .i64 (((a+1:Nat):Int) - 1)=(a:Int):=by rw[anI (by omega)];omega
 have p:(0:Int)<=(a:Int):=by omega
 have f:a<D.su.dur:=by simpa[Su.days,Su.asM]using b
 have g:D.su.days.getD a default=(D.su.first+a,D.su.works (D.su.first+a)):=by
  simp only[Su.days,Su.asM,aD,az,List.getElem?_range f,ay,aO]
 obtain⟨v,_,_,_,q,_,_,w,_⟩:=Su.facts h.su;have o:=axV D.su.cal D.su.year.toNat;have k:=D.su.cal.ap5 D.su.year.toNat;have c:=aWU D.su.cal D.su.year.toNat (D.su.first+a) q (by omega) (by simp only[Su.first];omega) (by
  have e1:D.su.cal.first (D.su.year.toNat+1)=D.su.cal.first D.su.year.toNat+asl (D.su.cal.leap D.su.year):=by
   rw[Cal.first];rw[show((D.su.year.toNat:Nat):Int)=D.su.year by omega]
  have e2:(D.su.dur:Int)=asl (D.su.cal.leap D.su.year):=by
   have:=aq7 (D.su.cal.leap D.su.year);simp only[Su.dur];split at this<;>omega
  rw[e1,<-e2,Su.first];omega)
 have u:(ns.getD 0 default - 1)=(a:Int):=by omega
 rw[aoJ,arU]at c;rw[e]at hd h2;refine apq (anJ ap1 aoj ?_);simp only[ap1,aoj,apQ,j0,t0,j,ab,getD_map,anM,e,RN,F,H,S];refine anE hd ?_;simp only[h2,aom,j0,t0,j,ab,getD_map,anM,e,r,p,b,an,aMz,g,RN,F,H,I,S];refine anE c ?_;simp only[aMF,bC,an6,aoz,if_true,RN,F,H,J,S];refine⟨_,rfl,0,0,rfl,?_⟩;have i:(((a+1:Nat):Int) - 1)=(a:Int):=by omega
 rw[i]
 rfl
end
end Go.Tel
