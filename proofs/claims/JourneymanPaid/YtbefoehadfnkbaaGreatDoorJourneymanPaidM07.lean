/-
  Part 7 of a law of desks.
  Conditions: none.
-/
import Derived.Test.YtbefoehadfnkbaaGreatDoorJourneymanPaidM04
import Derived.Test.YtbefoehadfnkbaaGreatDoorJourneymanPaidM06
import Derived.Shelf.Slices.In.SortNone
import Derived.Ground.NamesProg
import Derived.Shelf.Strings.Split
import Derived.Shelf.Strings.OnBuilder
import Derived.Shelf.Strconv.Itoa3
import Derived.Lib.ItoaLen
import Derived.Laws.RangeString
import Derived.Laws.RangeAny
import Derived.Shelf.Small.Strs
set_option linter.all false
set_option maxRecDepth 10000
set_option maxHeartbeats 4000000
open Nat renaming reduceBEq->F,reduceAdd->H,reduceSub->I,reduceEqDiff->J,reduceLT->N,reduceLeDiff->S,lt_irrefl->aw,zero_le->az,le_trans->a8,le_refl->bc,add_assoc->bB,lt_of_lt_of_le->bR,mul_one->cm,succ_mul->cw
open List renaming length_map->U,getElem?_eq_some_iff->V,length_append->Y,not_mem_nil->ae,getElem?_set_ne->ai,length_cons->am,length_nil->ao,getElem?_append_left->ap,mem_cons->av,mem_singleton->ax,length_set->aD,map_cons->aE,drop_zero->aR,append_assoc->bd,getElem?_set_self->bk,map_nil->bl,mem_map->bo,append_nil->bp,length->bq,take_length->br,map_append->bt,append_cancel_left->bw,drop_length->bA,mem_append->bE,map_eq_nil_iff->bN,zip_cons_cons->bO,flatMap_cons->bS,zip_nil_left->bX,all_eq_true->b7,take_of_length_le->b9,mem_cons_of_mem->ca,mem_cons_self->cb,getElem?_map->cf,length_range->cg,size_toArray->cj,length_take->ck,range_succ->cn,map->cq,range->cr,drop->cz,take->cA
open Int renaming toNat_natCast->aq,lt_irrefl->aM,le_refl->cl
open Bool renaming and_eq_true->aL,false_and->bi,true_and->b0,not_true->ct
open Option renaming getD_some->a7,map_none->be,getD_none->bj,isSome_none->bu,isSome_some->bv,map_some->bL
open Array renaming length_toList->bh
open ByteArray renaming size_append->bz,data_extract->b8,size->cp
open Iff renaming rfl->cv
open Go.IntKind renaming wrap->cB
namespace Go.Tel
open Go.Am
def afF {f:FuncId}{args:List PV}{M:Mem}{ds ds':List DV}{x:DV}{K:PV->Mem->Prop}{KP:DV->Mem->Prop}(h:Pure C f ds' (.d x) [])(hx:aaj (.d x)=true)(a:dF M args=some ds)(c:ds.map DV.strip=ds')(b:K (.d x) M):SC C f args M K KP:=
 abU h hx rfl a c (by simpa[PV.shift,kC]using b)
section
variable (e1 e2:Bool)(D:Dk)
def agF (n:Int):Pure C 375 [(De.cut n).cs,uP e1 e2 D] (.d (.bool (D.gB (.cut n)))) []:=by
 refine ah mixed rfl DY ?_;simp only[tV,aJ,De.cs,uP,RN,F,H,I,J,N,S];refine ak rfl rfl (l7 _) ?_;simp only[Dk.gB,RN,F,H,I,J,N,S]
def XV (hl:D.su.pc.links.length<=1000)(c:Chg):Pure C 376 [(De.change c).cs,uP e1 e2 D] (.d (.bool (D.gB (.change c)))) []:=by
 refine ah mixed rfl zU ?_;have b:cB .i64 ((D.su.pc.links.length:Int) - 1)=(D.su.pc.links.length:Int) - 1:=aF (by omega);simp only[o9,aJ,De.cs,uP,JG,uS,U,b,RN,F,H,I,J,N,S];refine ak rfl rfl (Ah _ _ _) ?_;cases h1:inR c.link 0 ((D.su.pc.links.length:Int) - 1)
 ·(try simp only[RN,F,H,I,J,N,S])
  simp only[Dk.gB,h1,bi]
 (try simp only[RN,F,H,I,J,N,S]);refine ak rfl rfl (l7 _) ?_;cases h2:aT c.pr.a
 ·(try simp only[RN,F,H,I,J,N,S])
  simp only[Dk.gB,h1,Pr.ok,h2,bi,Bool.and_false]
 (try simp only[RN,F,H,I,J,N,S]);refine ak rfl rfl (l7 _) ?_;(try simp only[RN,F,H,I,J,N,S]);simp only[Dk.gB,h1,Pr.ok,h2,b0]
def abt (hh:D.su.pc.hands.length<=1000)(n:Int)(f:Fr):Pure C 377 [(De.order n f).cs,uP e1 e2 D] (.d (.bool (D.gB (.order n f)))) []:=by
 refine ah mixed rfl Bg ?_;have b:=FZ e1 e2 D hh n;have a:=afj f;rw[bW]at a;rw[uP]at b⊢;simp only[qL,aJ,De.cs,RN,F,H,I,J,N,S];refine ak rfl rfl b ?_;cases h1:inR n 0 ((D.su.pc.hands.length:Int) - 1)
 ·(try simp only[RN,F,H,I,J,N,S])
  simp only[Dk.gB,h1,bi]
 (try simp only[RN,F,H,I,J,N,S]);refine ak rfl rfl a ?_;(try simp only[RN,F,H,I,J,N,S]);simp only[Dk.gB,h1,b0]
def abZ (hh:D.su.pc.hands.length<=1000)(n c:Int):Pure C 378 [(De.serve n c).cs,uP e1 e2 D] (.d (.bool (D.gB (.serve n c)))) []:=by
 refine ah mixed rfl Bj ?_;have a:=FZ e1 e2 D hh n;rw[uP]at a⊢;simp only[qN,aJ,De.cs,RN,F,H,I,J,N,S];refine ak rfl rfl a ?_;simp only[Dk.gB,RN,F,H,I,J,N,S]
def ahT (n:Int):Pure C 379 [(De.set n).cs,uP e1 e2 D] (.d (.bool (D.gB (.set n)))) []:=by
 refine ah mixed rfl D6 ?_;have a:=Ru e1 e2 D n;rw[uP]at a⊢;simp only[tZ,aJ,De.cs,RN,F,H,I,J,N,S];refine ak rfl rfl a ?_;simp only[Dk.gB,RN,F,H,I,J,N,S]
def Zn (hl:D.es.length<=1000)(n:Int):Pure C 373 [(De.strike n).cs,uP e1 e2 D] (.d (.bool (D.gB (.strike n)))) []:=by
 refine ah mixed rfl zW ?_;have c:cB .i64 ((D.es.length:Int) - 1)=(D.es.length:Int) - 1:=aF (by omega);simp only[pz,aJ,De.cs,uP,JG,U,c,RN,F,H,I,J,N,S];refine ak rfl rfl (Ah _ _ _) ?_;cases h1:inR n 0 ((D.es.length:Int) - 1)
 ·(try simp only[RN,F,H,I,J,N,S])
  simp only[Dk.gB,h1,bi]
 have a:0<=n/\n<=(D.es.length:Int) - 1:=by simpa[inR]using h1
 have b:n.toNat<D.es.length:=by omega
 simp only[a.1,b,U,getD_map,dM,RN,F,H,I,J,N,S];have:((D.es.getD n.toNat default).kind !=6)=decide ((D.es.getD n.toNat default).kind≠6):=by
  by_cases h:(D.es.getD n.toNat default).kind=6
  ·rw[h];rfl
  ·rw[decide_eq_true h];exact bne_iff_ne.2 h
 simp only[Dk.gB,h1,b0,this]
end
def De.aji:De->FuncId
 | .cut _=>375
 | .change _=>376
 | .order _ _=>377
 | .serve _ _=>378
 | .set _=>379
 | .strike _=>373
variable{D:Dk}
def Dk.Ok.small (h:D.Ok):D.su.pc.links.length<=5/\D.su.pc.hands.length<=4:=by
 have:=Pc.xA (Su.facts h.su).1;omega
def aoN (e1 e2:Bool){D:Dk}(h:D.Ok)(x:De):Pure C x.aji [x.cs,uP e1 e2 D] (.d (.bool (D.gB x))) []:=by
 obtain⟨h1,h2⟩:=h.small;cases x with
 |cut n=>exact agF _ _ _ _
 |change c=>exact XV _ _ _ (by omega) _
 |order n f=>exact abt _ _ _ (by omega) _ _
 |serve n c=>exact abZ _ _ _ (by omega) _ _
 |set n=>exact ahT _ _ _ _
 |strike n=>exact Zn _ _ _ (by have:=h.few;omega) _
def ajk (x:De):Ic C.P x.ty "tellurion/journeyman.fine" =some x.aji/\callable C.P x.aji=true:=by
 cases x<;>exact⟨by kernel_rfl,by kernel_rfl⟩
def aiT (x:De):x.cs.strip=x.cs:=by cases x<;>rfl
def ajj {d:Nat}{ce cs:PV}{M:Mem}(h:oC D d ce cs M)(a:D.Ok)(x:De){base:Nat}{K:PV->Mem->Prop}{KP:DV->Mem->Prop}(b:K (.d (.bool (D.gB x))) M):
  au C base (.inv "tellurion/journeyman.fine") [.d x.dv, .ptr d 0] M K KP:=by
 obtain⟨e1,e2,hd⟩:=Lc h;obtain⟨c,e⟩:=ajk x;refine⟨_,c,e,afF (ds:=[x.cs,uP e1 e2 D]) (ds':=[x.cs,uP e1 e2 D]) (aoN e1 e2 a x) rfl ?_ ?_ b⟩
 ·simp only[dF,hd];rfl
 ·simp only[aE,bl,aiT];rfl
end Go.Tel
namespace Go.Tel
open Go.Am
def RS (d:DV):Prop:=∃s,d= .iface T.qV (.agg [.str s])
variable{bs:List (Option (List PV))}
def ak9 {b:Nat}{y:Option (List PV)}(h:bs[b]?=some y):bs.set b y=bs:=by
 apply List.ext_getElem?;intro i;rw[List.getElem?_set]
 by_cases a:b=i
 ·subst a
  have:=(V.1 h).1;simp[this,h];have h2:=h;rw[List.getElem?_eq_getElem this]at h2
  simpa using h2.symm
 ·simp[a]
def Rx {g:FuncId}{fs cs:List PV}{fz:List Nat}{ar:List (Option Arr)}{K:PV->Mem->Prop}{KP:DV->Mem->Prop}(k:FzB ⟨bs,fz,ar⟩)(hc:callable C.P g=true)
  (h:SC C g (fs++cs) ⟨bs++ [some [pI 0]],fz,ar⟩
   (fun _ M'=>M'.boxes[bs.length]?=some (some [pI 0])/\bs.length∉M'.fz/\K (pI 0) M')
   (fun d M'=>M'.boxes[bs.length]?=some (some [pI 0])/\bs.length∉M'.fz/\M'.boxes.length∉M'.fz/\
    ((JA d/\∀x,K (pI 7) ⟨(M'.boxes++ [x]).set bs.length (some [pI 7]),M'.fz,M'.aB⟩)\/
     (RS d/\∀x,K (pI 4) ⟨(M'.boxes++ [x]).set bs.length (some [pI 4]),M'.fz,M'.aB⟩)))):
  SC C 72 [.func (.func g) fs cs] ⟨bs,fz,ar⟩ K KP:=by
 have n:bs.length∉fz:=fun e=>aw _ (k _ e)
 refine alr mixed LW ?_;simp only[xR,aQ,aV,Y,RN,F,H,I,J,N,S];refine⟨bs.length,rfl,?_⟩;simp only[xU,WI,RN,F,H,I,J,N,S];refine⟨hc,SC.jU (SC.mono h ?_) ?_⟩
 ·rintro v ⟨a,i,ar'⟩ ⟨h1,h2,c⟩
  simp only at h1 h2;have f:=(V.1 h1).1;simp only[h1,h2,f,ak9 h1,RN,F,H,I,J,N,S];simp only[acj,jT,Px,wC,h1,f,RN,F,H,I,J,N,S];exact c
 ·rintro d ⟨a,i,ar'⟩ ⟨h1,h2,c,l⟩
  simp only at h1 h2 c l;have f:=(V.1 h1).1
  rcases l with⟨⟨y,rfl,o,p⟩,j⟩|⟨⟨s,rfl⟩,j⟩
  ·have b:bs.length<(a++ [some [PV.d y]]).length:=by simp;omega
   simp only[Vy,jT,Pv,mF,wC,aQ,aV,c,o,p,bD f,h1,h2,bk b,RN,F,H,I,J,N,S];exact j _
  ·have b:bs.length<(a++ [some [PV.d (.str s)]]).length:=by simp;omega
   have m:(T.qV==T.iT)=false:=by decide
   simp only[Vy,jT,Pv,fU m,mF,wC,aQ,aV,c,bD f,h1,h2,bk b,RN,F,H,I,J,N,S];exact j _
end Go.Tel
namespace Go.Am
section
variable {C:Ctx}{base:Nat}{KP:DV->Mem->Prop}{K:PV->Mem->Prop}{M:Mem}
variable{agg:Bool}{f:FuncId}{rest:List PV}
def alR {n:Nat}{cs:List DV}(hl:n<=cs.length)(h:SC C f rest M K KP):au C base (.EG agg n f) (.d (.aW cs)::rest) M K KP:=by
 simp only[au,bZ];exact⟨hl,SC.mono h fun p a hh=>⟨⟨hl,trivial⟩,hh⟩⟩
def alQ {n b off:Nat}{cs:List PV}(hb:M.boxes[b]?=some (some cs))(hl:off+n<=cs.length)(h:SC C f rest M (fun p M'=>M'.boxes[b]?=M.boxes[b]?/\K p M') KP):au C base (.EG agg n f) (.ptr b off::rest) M K KP:=by
 have a:M.box b=some cs:=by simp[Mem.box,hb]
 simp only[au,bZ,a];refine⟨hl,SC.mono h fun p M' hh=>⟨?_,hh.2⟩⟩;have arC:M'.box b=some cs:=by simp[Mem.box,hh.1,hb]
 simp only[arC];exact⟨hl,trivial⟩
end
end Go.Am
namespace Go.Tel
open Go.Am
def Dk.goes (D:Dk):De->Bool
 | .strike n=> !D.st.getD n.toNat default&&(D.state n).isSome
 |y=>match D.state (-1)with
  |none=>false
  |some t=>(doS D.su t y).isSome
variable{D:Dk}{y:De}
def Ti (a:∀n,y≠ .strike n):D.goes y=match D.state (-1)with|none=>false|some t=>(doS D.su t y).isSome:=by
 cases y with
 |strike n=>exact absurd rfl (a n)
 | _=>rfl
def aod (a:∀n,y≠ .strike n):(y.ty==T.bK)=false:=by
 cases y with
 |strike n=>exact absurd rfl (a n)
 | _=>rfl
def Frm.new {bs xb:List (Option (List PV))}{fz xf:List Nat}{ar:List (Option Arr)}(hx:∀i∈xf,bs.length<=i/\i<bs.length+xb.length):Frm ⟨bs,fz,ar⟩ ⟨bs++xb,xf++fz,ar⟩:=by
 have:=Frm.ext (bs:=bs) (xb:=xb) (fz:=fz) (xf:=xf) (ar:=ar) (xa:=[]) hx
 simpa using this
def agJ {d:Nat}{ce cs:PV}{M:Mem}(h:oC D d ce cs M)(j:D.Ok)(y:De)(hf:D.gB y=true)(Q:kK D.su D.su.sp0 y){pb:Nat}(w:M.boxes[pb]?=some (some [.ptr d 0])):
  SC C 112 [.d (.aW [y.dv]), .ptr pb 0] M (fun _ M'=>D.goes y=true/\Frm M M') (fun A M'=>D.goes y=false/\JA A/\Frm M M'):=by
 obtain⟨bs,fz,ar⟩:=M;have f:=h.box;rw[iV]at f;simp only at f w;have r:d<bs.length:=(V.1 f).1;have p:pb<bs.length:=(V.1 w).1;have u:bs.length∉fz:=fun e=>aw _ (h.fzb _ e)
 have i:∀k,d<bs.length+k:=fun k=>by omega
 have l:∀k,pb<bs.length+k:=fun k=>by omega
 have c:∀x,Frm ⟨bs,fz,ar⟩ ⟨bs++ [x],bs.length::fz,ar⟩:=fun x=>Frm.new (xf:=[bs.length]) (by simp)
 refine aG mixed rfl yS ?_
 by_cases hs:∃n,y= .strike n
 ·obtain⟨n,rfl⟩:=hs
  have E:(De.strike n).dv= .iface T.bK (.agg [dI n]):=rfl;have B:(0<=n/\n<=(D.es.length:Int) - 1)/\n.toNat<D.st.length:=by
   simp only[Dk.gB,inR,aL,decide_eq_true_eq]at hf;have:=j.len;omega
  rw[E];simp only[jO,jq,mF,w,p,r,i,l,f,bD,aQ,aV,u,Y,RN,F,H,I,J,N,S];obtain⟨k2,aeV,ai,rfl,s,_⟩:=Io h.str (by intro e;simp at e;rw[e]at B;simp at B);simp only at s;simp only[i,l,s,B.1.1,B.2,U,getD_map,kF,RN,F,H,I,J,N,S];cases z:D.st.getD n.toNat default
  ·simp only[w,p,i,l,bD,Y,RN,F,H,I,J,N,S]
   refine SC.jU (SC.mono (N9 (h.frm (c _)) j n) ?_) ?_
   ·rintro v M' ⟨t,b,mb,a,O,L,rfl,g,q,m,_⟩
    obtain⟨K,P,ar'⟩:=M';(try simp only[RN,F,H,I,J,N,S]);exact⟨by simp only[Dk.goes,z,g];rfl,(c _).trans m⟩
   ·rintro A M' ⟨g,q,m⟩
    exact⟨by simp[Dk.goes,g],q,(c _).trans m⟩
  ·simp only[LJ,JJ,RN,F,H,I,J,N,S]
   exact⟨by simp only[Dk.goes,z,ct,bi],⟨_,rfl,rfl,rfl⟩,c _⟩
 ·have G:∀n,y≠ .strike n:=fun n e=>hs ⟨n,e⟩
  have E:y.dv= .iface y.ty y.cs:=rfl;rw[E];simp only[jO,jq,fU (aod G),w,p,r,i,l,f,bD,aQ,aV,u,Y,RN,F,H,I,J,N,S];refine alR (by simp) ?_;refine SC.jU (SC.mono (N9 (h.frm (c _)) j (-1)) ?_) ?_
  ·rintro v M' ⟨t,b,mb,a,O,L,rfl,g,q,m,Z,g5,g6⟩
   obtain⟨K,P,ar'⟩:=M';have o:=j.Vp g;(try simp only[RN,F,H,I,J,N,S]);rw[<-E];refine SC.jU (SC.mono (ai1 an0 q (o.sp (by decide)) y (kK.same (n:=0) o.ll.symm o.hh.symm Q)) ?_) ?_
   ·rintro v X ⟨t',sH,BG,R,q2,W⟩
    obtain⟨ac,ae,ab⟩:=X;(try simp only[RN,F,H,I,J,N,S]);exact⟨by rw[Ti G,g];simp[R],(c _).trans (m.frs W Z g5 g6)⟩
   ·rintro A X ⟨R,q2,W⟩
    exact⟨by rw[Ti G,g];simp[R],q2,(c _).trans (m.frs W Z g5 g6)⟩
  ·rintro A M' ⟨g,q,m⟩
   exact⟨by rw[Ti G,g],q,(c _).trans m⟩
end Go.Tel
namespace Go.Tel
open Go.Am
variable{bs:List (Option (List PV))}{fz:List Nat}{ar:List (Option Arr)}
def RG {sz:Nat}{W st1:Bool}{c:PV}{xs ys:List DV}{ex:Bool}{K:PV->Mem->Prop}(h:slN sz W c xs ar)(a:0<sz)(n:∀y∈ys,y.fits sz=true)(m:st1=true->ys≠[])(hl:xs.length+ys.length<=1073741824)
  (g:∀k ver st ar',(kOf c=some k\/k=ar.length)->ar'[k]?=some (some ⟨sz,xs++ys,ver,st⟩)->(∀j,j≠k->j<ar.length->ar'[j]?=ar[j]?)->ar.length<=ar'.length->st≠2->(st1=true->st=1)->K (.tsl k ver 0) ⟨bs,fz,ar'⟩):
  lg sz st1 c (.d (.slice ex ys)) ⟨bs,fz,ar⟩ K:=by
 rcases h with⟨rfl,rfl⟩|⟨k,ver,st,rfl,l,h2,o⟩
 ·simp only[lg,zL]
  refine⟨a,n,m,trivial,by simp,by simpa using hl,?_⟩;exact g _ _ _ _ (.inr rfl) (by simp;rfl) (fun j i b=>by rw[ap b]) (by simp) (by cases st1<;>simp) (fun e=>by simp[e])
 ·have f:k<ar.length:=(V.1 l).1
  simp only[lg,zL,Mem.row,l,if_true];refine⟨a,n,m,trivial,h2,hl,?_⟩;exact g k (ver+1) _ _ (.inl rfl) (by simp[f];rfl) (fun j i _=>ai (Ne.symm i)) (by simp) (by cases st1<;>simp[h2]) (fun e=>by simp[e])
structure FrD (d:Nat) (ce cs ce' cs':PV) (M M':Mem):Prop where
 len:M.boxes.length<=M'.boxes.length
 bH:M.aB.length<=M'.aB.length
 box:∀i,i<M.boxes.length->i≠d->M'.boxes[i]?=M.boxes[i]?
 fz:∀i,i<M.boxes.length->(i∈M'.fz↔i∈M.fz)
 row:∀k,k<M.aB.length->kOf ce≠some k->kOf cs≠some k->M'.aB[k]?=M.aB[k]?
 oe:∀k,kOf ce'=some k->kOf ce=some k\/M.aB.length<=k
 os:∀k,kOf cs'=some k->kOf cs=some k\/M.aB.length<=k
def FrD.trans {d:Nat}{ce cs ce' cs' c f:PV}{M M' b:Mem}(h:FrD d ce cs ce' cs' M M')(h':FrD d ce' cs' c f M' b):FrD d ce cs c f M b:=
 {len:=a8 h.len h'.len
  bH:=a8 h.bH h'.bH
  box:=fun i g hd=>(h'.box i (bR g h.len) hd).trans (h.box i g hd)
  fz:=fun i g=>(h'.fz i (bR g h.len)).trans (h.fz i g)
  row:=fun k a h1 h2=>(h'.row k (bR a h.bH) (fun e=>(h.oe k e).elim h1 (by omega)) (fun e=>(h.os k e).elim h2 (by omega))).trans (h.row k a h1 h2)
  oe:=fun k a=>(h'.oe k a).elim (fun e=>h.oe k e) (fun e=> .inr (a8 h.bH e))
  os:=fun k a=>(h'.os k a).elim (fun e=>h.os k e) (fun e=> .inr (a8 h.bH e))}
variable{d:Nat}
def Frm.frD {ce cs:PV}{M M':Mem}(h:Frm M M'):FrD d ce cs ce cs M M':=
 ⟨h.len,h.bH,fun i a _=>h.box i a,h.fz,fun k b _ _=>h.row k b,fun _=> .inl,fun _=> .inl⟩
variable{D:Dk}{ar':List (Option Arr)}
def oC.aq2 {ce cs:PV}(h:oC D d ce cs ⟨bs,fz,ar⟩){k ver st:Nat}{es:List En}(hk:kOf ce=some k\/k=ar.length)(h1:ar'[k]?=some (some ⟨2,es.map En.dv,ver,st⟩))
  (h2:∀j,j≠k->j<ar.length->ar'[j]?=ar[j]?)(hl:ar.length<=ar'.length)(hst:st≠2):
  oC {D with es:=es} d (.tsl k ver 0) cs ⟨bs.set d (some (iV D.su (.tsl k ver 0) cs)),fz,ar'⟩/\FrD d ce cs (.tsl k ver 0) cs ⟨bs,fz,ar⟩ ⟨bs.set d (some (iV D.su (.tsl k ver 0) cs)),fz,ar'⟩:=by
 have c:d<bs.length:=(V.1 h.box).1;have b:∀j,kOf cs=some j->j≠k:=fun j a e=>by
  subst e
  rcases hk with hk|hk
  ·exact h.dif j hk a
  ·have:=OW h.str a;simp only at this;omega
 constructor
 ·exact
  {box:=by simp[c]
   ent:= .inr ⟨k,ver,st,rfl,h1,hst,fun e=>by cases e⟩
   str:=zF h.str fun j A a f=>(h2 j (b j a) (V.1 f).1).trans f
   dif:=fun j a e=>by cases a;exact b _ e rfl
   nb:=h.nb
   fzb:=fun i l=>by have:=h.fzb i l;simpa using this}
 ·exact
  {len:=by simp
   bH:=hl
   box:=fun i _ hd=>by simp only;rw[ai (Ne.symm hd)]
   fz:=fun _ _=>cv
   row:=fun j a g _=>h2 j (fun e=>by
    subst e
    rcases hk with hk|hk
    ·exact g hk
    ·simp only at a;omega) a
   oe:=fun j a=>by
    cases a
    rcases hk with hk|hk
    ·exact .inl hk
    ·exact .inr (by simp only;omega)
   os:=fun _=> .inl}
def oC.aq4 {ce cs:PV}(h:oC D d ce cs ⟨bs,fz,ar⟩){k ver:Nat}{l:List Bool}(hk:kOf cs=some k\/k=ar.length)(h1:ar'[k]?=some (some ⟨1,l.map .bool,ver,1⟩))
  (h2:∀j,j≠k->j<ar.length->ar'[j]?=ar[j]?)(hl:ar.length<=ar'.length):
  oC {D with st:=l} d ce (.tsl k ver 0) ⟨bs.set d (some (iV D.su ce (.tsl k ver 0))),fz,ar'⟩/\FrD d ce cs ce (.tsl k ver 0) ⟨bs,fz,ar⟩ ⟨bs.set d (some (iV D.su ce (.tsl k ver 0))),fz,ar'⟩:=by
 have c:d<bs.length:=(V.1 h.box).1;have b:∀j,kOf ce=some j->j≠k:=fun j a e=>by
  subst e
  rcases hk with hk|hk
  ·exact h.dif j a hk
  ·have:=OW h.ent a;simp only at this;omega
 constructor
 ·exact
  {box:=by simp[c]
   ent:=zF h.ent fun j A a f=>(h2 j (b j a) (V.1 f).1).trans f
   str:= .inr ⟨k,ver,1,rfl,h1,by decide,fun _=> .inl rfl⟩
   dif:=fun j a e=>by cases e;exact b _ a rfl
   nb:=h.nb
   fzb:=fun i m=>by have:=h.fzb i m;simpa using this}
 ·exact
  {len:=by simp
   bH:=hl
   box:=fun i _ hd=>by simp only;rw[ai (Ne.symm hd)]
   fz:=fun _ _=>cv
   row:=fun j a _ g=>h2 j (fun e=>by
    subst e
    rcases hk with hk|hk
    ·exact g hk
    ·simp only at a;omega) a
   oe:=fun _=> .inl
   os:=fun j a=>by
    cases a
    rcases hk with hk|hk
    ·exact .inl hk
    ·exact .inr (by simp only;omega)}
def Ur:aA:=
     (.seq
     (.region true [
      of 45 (.load false 1) [.t 2] 2,
      of 46 (.load false 1) [.t 2] 2,
      oa 47 .bG 46,
      of 48 (.fld 2) [.t 47] 2,
      of 49 (.load false 1) [.t 48] 2,
      of 50 (.fld 0) [.t 3] 1,
      of 51 (.load false 1) [.t 50] 1,
      of 52 (.fld 1) [.t 3] 1,
      of 53 (.load false 1) [.t 52] 1,
      oa 54 (.aj 114) 53,
      ob 55 (.build [dI 0, .slice true []] [(0,1),(1,1)]) 51 54,
      of 56 (.gu 2 [.agg [dI 0, .slice true []]] [0]) [.t 55] 1,
      ob 57 (.app 2 false) 49 56,
      oa 58 .bG 45,
      of 59 (.fld 2) [.t 58] 2,
      os (.store 1) [.t 59, .t 57] 0] 0 [2] [])
     (.seq
      (.region true [
       of 60 (.load false 1) [.t 2] 2,
       of 61 (.load false 1) [.t 2] 2,
       oa 62 .bG 61,
       of 63 (.fld 3) [.t 62] 2,
       of 64 (.load false 1) [.t 63] 2,
       of 65 (.gu 1 [.bool false] [0]) [.c (.bool false)] 1,
       ob 66 (.app 1 true) 64 65,
       oa 67 .bG 60,
       of 68 (.fld 3) [.t 67] 2,
       os (.store 1) [.t 68, .t 66] 0] 0 [] [])
      (.seq
      (rg [
       mk 4 (kI 0)] 0 [4])
      .ret)))
def SG {ce cs:PV}(h:oC D d ce cs ⟨bs,fz,ar⟩)(x:En)(hx:x.ns.length<=1000)(X:D.es.length<=1000)(Y:D.st.length<=1000){pb:Nat}(p:bs[pb]?=some (some [.ptr d 0]))(v:pb≠d){nb na:Nat}{Q:Ex->St->Prop}
  (W:∀ce' cs' M',oC {D with es:=D.es++ [x],st:=D.st++ [false]} d ce' cs' M'->FrD d ce cs ce' cs' ⟨bs,fz,ar⟩ M'->Q .ret ⟨[(4,pI 0)],M'⟩):
  pwp C nb na Ur Q ⟨[(2, .ptr pb 0),(3, .d (.aW [dI x.kind,sF (x.ns.map ay)]))],⟨bs,fz,ar⟩⟩:=by
 have a:=h.box;rw[iV]at a;simp only at a;have c:d<bs.length:=(V.1 a).1;have m:pb<bs.length:=(V.1 p).1;have j:=h.nb;simp only at j;obtain⟨o1,o2,o3⟩:=afH h.ent;obtain⟨u1,u2,u3⟩:=afH h.str;have u:Pure C 114 [sF (x.ns.map ay)] (.d (sF (x.ns.map ay))) []:=Xm (Dp (x.ns.map ay) vN (by simp;omega)) rfl;rw[Ur];simp only[p,m,c,a,RN,F,H,I,J,N,S];refine ak rfl rfl u ?_;simp only[p,m,c,a,vJ,DV.strip,RN,F,H,I,J,N,S];refine RG h.ent (by decide) (by intro y o;simp only[ax]at o;subst o;rfl) (by simp) (by simp;omega) fun k ver st q z A E G K _=> ?_
 obtain⟨e,w⟩:=h.aq2 (k:=k) (ver:=ver) (st:=st) (es:=D.es++ [x]) (ar':=q) z (by rw[A];simp[dM]) E G K;simp only[a,c,j,bM,dB,RN,F,H,I,J,N,S];obtain⟨B,s⟩:∃B,B=bs.set d (some (iV D.su (.tsl k ver 0) cs)):=⟨_,rfl⟩
 have t:bs.set d (some [.d (.aW D.su.cs), .d (sF (D.su.days.map Ac)), .tsl k ver 0,cs])=B:=by rw[s,iV]
 rw[<-s]at e w;simp only[t];have b:=e.box;rw[iV]at b;simp only at b;have f:d<B.length:=(V.1 b).1;have g:=e.nb;simp only at g;have i:B[pb]?=some (some [.ptr d 0]):=by rw[s,ai (Ne.symm v)];exact p
 have arx:pb<B.length:=(V.1 i).1;simp only[i,arx,f,b,kF,RN,F,H,I,J,N,S];refine RG e.str (by decide) (by intro y o;simp only[ax]at o;subst o;rfl) (by simp) (by simp;omega) fun Z aeV ab r L M O P b5 R=> ?_
 have n:=R rfl;subst n;obtain⟨T,U⟩:=e.aq4 (k:=Z) (ver:=aeV) (l:=D.st++ [false]) (ar':=r) L (by rw[M];simp) O P;simp only[b,f,g,bM,dB,RN,F,H,I,J,N,S];refine W _ _ _ T ?_;rw[<-iV];exact w.trans U
end Go.Tel
namespace Go.Tel
open Go.Am
def De.aaB:De->Option Nat
 | .strike n=>some n.toNat
 | _=>none
def Dk.with (D:Dk)(x:En):Dk:=match x.deed.aaB with
 |some n=>{D with es:=D.es++ [x],st:=D.st.set n true++ [false]}
 |none=>{D with es:=D.es++ [x],st:=D.st++ [false]}
def Dk.enter (D:Dk)(x:En):Dk×Int:=
 if x.formed=false then(D,2)else if D.es.length=24 then(D,3)else if D.gB x.deed=false then(D,2)else if D.goes x.deed then(D.with x,0)else(D,7)
variable{M:Mem}
def Frm.ak8 {a:List (Option (List PV))}{b:List Nat}{ar':List (Option Arr)}{x y:Option (List PV)}{i:Nat}(h:Frm M ⟨a,b,ar'⟩)(hi:M.boxes.length<=i):Frm M ⟨(a++ [x]).set i y,b,ar'⟩:=
 {len:=by have:=h.len;simp only[aD,Y]at this⊢;omega
  bH:=h.bH
  box:=fun j c=>by
   have h1:=h.len;have h2:=h.box j c;simp only at h1 h2⊢;rw[ai (by omega),ap (by omega)];exact h2
  fz:=h.fz
  row:=h.row
  fzb:=fun e j c=>by have:=h.fzb e j c;simp only[aD,Y]at this⊢;omega}
variable{D:Dk}
def agK (h:D.Ok)(x:En)(hf:x.formed=true)(hb:D.gB x.deed=true)(hl:D.es.length≠24):(D.with x).Ok:=by
 have b:=Yb hf hb;have h1:=h.few;unfold Dk.with
 cases x.deed.aaB<;>simp only
 ·exact⟨h.su,by simp[h.len],by simp;omega,fun y a=>by
   rcases bE.1 a with a|a
   ·exact h.formed y a
   ·simp only[ax]at a;rw[a];exact hf,fun y a=>by
   rcases bE.1 a with a|a
   ·exact h.fine y a
   ·simp only[ax]at a;rw[a];exact b⟩
 ·exact⟨h.su,by simp[h.len],by simp;omega,fun y a=>by
   rcases bE.1 a with a|a
   ·exact h.formed y a
   ·simp only[ax]at a;rw[a];exact hf,fun y a=>by
   rcases bE.1 a with a|a
   ·exact h.fine y a
   ·simp only[ax]at a;rw[a];exact b⟩
def aac (h:D.Ok)(x:En):(D.enter x).1.Ok:=by
 unfold Dk.enter
 split
 ·exact h
 split
 ·exact h
 split
 ·exact h
 split
 ·rename_i h1 h2 a _
  exact agK h x (by simpa using h1) (by simpa using a) h2
 ·exact h
def oC.row {D:Dk}{d k ver:Nat}{ce:PV}{bs:List (Option (List PV))}{fz:List Nat}{ar:List (Option Arr)}(h:oC D d ce (.tsl k ver 0) ⟨bs,fz,ar⟩)(hk:k<ar.length)(l:List Bool):
  oC {D with st:=l} d ce (.tsl k ver 0) ⟨bs,fz,ar.set k (some ⟨1,l.map .bool,ver,1⟩)⟩/\FrD d ce (.tsl k ver 0) ce (.tsl k ver 0) ⟨bs,fz,ar⟩ ⟨bs,fz,ar.set k (some ⟨1,l.map .bool,ver,1⟩)⟩:=by
 constructor
 ·exact
  {box:=h.box
   ent:=zF h.ent fun j A a c=>by
    simp only;rw[ai (fun e=>by subst e;exact h.dif _ a rfl)];exact c
   str:= .inr ⟨k,ver,1,rfl,by simp[hk],by decide,fun _=> .inl rfl⟩
   dif:=h.dif
   nb:=h.nb
   fzb:=h.fzb}
 ·exact
  {len:=bc _
   bH:=by simp
   box:=fun _ _ _=>rfl
   fz:=fun _ _=>cv
   row:=fun j a _ b=>by simp only;rw[ai (fun e=>b (by rw[e];rfl))]
   oe:=fun _=> .inl
   os:=fun _=> .inl}
def JL {x:En}(h:x.formed=true):x.ns.length<=3:=by
 simp only[En.formed,aL,decide_eq_true_eq]at h;have:=afm x.kind;omega
def abw:aA:=
(.seq
 (.region false [
  oa 2 (.box 0) 0,
  oa 3 (.box 1) 1,
  mk 4 (kI 0)] 2 [2,3] [3])
 (.seq
 (.seq
  (rg [
   lo 9 2,
   oa 10 (.jd 69) 9,
   oa 11 (.un .not) 10] 0 [2,3,11])
  (.cond (.t 11)
  (.seq
   (rg [
    mk 4 (kI 1)] 0 [4])
   .ret)
  .skip))
 (.seq
  (.seq
  (rg [
   oa 12 (.load true 2) 3,
   oa 13 (.aj 110) 12,
   oa 14 (.un .not) 13] 0 [2,3,14])
  (.cond (.t 14)
   (.seq
   (rg [
    mk 4 (kI 2)] 0 [4])
   .ret)
   .skip))
  (.seq
  (.seq
   (rg [
    lo 15 2,
    oa 16 .bG 15,
    oa 17 (.fld 2) 16,
    lo 18 17,
    oa 19 .len 18,
    oc 20 (.bin .eql) 19 (kI 24)] 0 [2,3,20])
   (.cond (.t 20)
   (.seq
    (rg [
     mk 4 (kI 3)] 0 [4])
    .ret)
   .skip))
  (.seq
   (.region false [
    oa 21 (.load true 2) 3,
    oa 22 (.aj 111) 21,
    on 5 (.alloc 0 [.nilIface]) [],
    os (.store 1) [.t 5, .t 22] 0] 1 [2,3,5] [5])
   (.seq
   (.seq
    (rg [
     lo 23 5,
     lo 24 2,
     ob 25 (.inv "tellurion/journeyman.fine") 23 24,
     oa 26 (.un .not) 25] 0 [2,3,5,26])
    (.cond (.t 26)
    (.seq
     (rg [
      mk 4 (kI 2)] 0 [4])
     .ret)
    .skip))
   (.seq
    (rg [
     ob 27 (.mkF (.func 112) 0) 5 2,
     oa 28 (.call 72) 27,
     mv 6 28] 0 [2,3,5,6])
    (.seq
    (.seq
     (rg [
      mv 29 6,
      oc 30 (.bin .neq) 29 (kI 0)] 0 [2,3,5,6,30])
     (.cond (.t 30)
     (.seq
      (rg [
       mv 31 6,
       mv 4 31] 0 [4])
      .ret)
     .skip))
    (.seq
     (.seq
     (.region false [
      lo 33 5,
      oa 34 (.tas T.bK (.agg [dI 0])) 33,
      mv 32 34,
      oa 35 (.ext 0) 32,
      oa 36 (.ext 1) 32,
      on 7 (.alloc 0 [dI 0]) [],
      os (.store 1) [.t 7, .t 35] 0,
      mv 8 36] 1 [2,3,7,8] [7])
     (.seq
      (rg [
       mv 37 8] 0 [2,3,7,37])
      (.cond (.t 37)
      (.region true [
       of 38 (.load false 1) [.t 2] 2,
       oa 39 .bG 38,
       of 40 (.fld 3) [.t 39] 2,
       of 41 (.load false 1) [.t 40] 2,
       of 42 (.fld 0) [.t 7] 1,
       of 43 (.load false 1) [.t 42] 1,
       ob 44 (.aZ 1) 41 43,
       os (.store 1) [.t 44, .c (.bool true)] 3] 0 [2,3] [])
      .skip)))
     Ur)))))))))
def aem:qx=abw:=rfl
def Zw {d:Nat}{ce cs:PV}(h:oC D d ce cs M)(o:D.Ok)(x:En){KP:DV->Mem->Prop}:
  SC C 38 [.ptr d 0, .d x.dv] M (fun p M'=>p= .d (dI (D.enter x).2)/\∃ce' cs',oC (D.enter x).1 d ce' cs' M'/\FrD d ce cs ce' cs' M M') KP:=by
 obtain⟨bs,fz,ar⟩:=M;have l:=h.box;rw[iV]at l;simp only at l;have ac:d<bs.length:=(V.1 l).1;have FX:∀i∈fz,i<bs.length:=h.fzb
 have aq:bs.length∉fz:=fun e=>aw _ (FX _ e)
 have av:∀k,bs.length+k∉fz:=fun k e=>by have:=FX _ e;omega
 have R:¬d=bs.length:=by omega
 have W:∀k,¬d=bs.length+k:=fun k=>by omega
 have z:∀k,d<bs.length+k:=fun k=>by omega
 have az:¬bs.length+1=bs.length:=by omega
 have aE:¬bs.length+2=bs.length:=by omega
 have aM:¬bs.length+2=bs.length+1:=by omega
 have r:Frm ⟨bs,fz,ar⟩ ⟨bs++ [some [.ptr d 0],some [pI x.kind, .d (sF (x.ns.map ay))]],(bs.length+1)::fz,ar⟩:=Frm.new (xf:=[bs.length+1]) (by simp);obtain⟨e1,e2,a4⟩:=Lc (h.frm r);have ai:=adJ x;rw[dM]at ai;have ae:D.es.length<=24:=o.few;have a0:D.st.length<=24:=by rw[<-o.len];exact o.few
 refine aG mixed rfl AY ?_;rw[aem];simp only[abw,aJ,dM,l,ac,bD,bQ,aQ,bV,dh,aV,bd,Y,bB,aD,aq,av,R,W,z,az,aE,aM,mD,wu,JR,RN,F,H,I,J,N,S];refine kS (La a4) rfl (aaA e1 e2 D) rfl ?_;(try simp only[RN,F,H,I,J,N,S]);refine ak rfl rfl ai ?_;cases b:x.formed
 ·(try simp only[RN,F,H,I,J,N,S])
  have t:D.enter x=(D,2):=by simp[Dk.enter,b]
  rw[t];exact⟨rfl,_,_,h.frm r,r.frD⟩
 simp only[l,ac,bD,bQ,aQ,z,Y,RN,F,H,I,J,N,S];rw[Zj h.ent]
 by_cases q:D.es.length=24
 ·have hb:(((D.es.map En.dv).length:Int)==24)=true:=by simp[q]
  simp only[hb,RN,F,H,I,J,N,S];have t:D.enter x=(D,3):=by simp[Dk.enter,b,q]
  rw[t];exact⟨rfl,_,_,h.frm r,r.frD⟩
 have hb:(((D.es.map En.dv).length:Int)==24)=false:=by simp;omega
 have ab:=SB x (Ae b);rw[dM]at ab;simp only[hb,RN,F,H,I,J,N,S];refine ak rfl rfl ab ?_;have arI:=(De.one x.deed).1;have arJ:=(De.one x.deed).2;simp only[arI,arJ,bD,bQ,aQ,bV,dh,aV,bd,Y,bB,aD,aq,av,R,W,z,az,aE,aM,RN,F,H,I,J,N,S];have f:Frm ⟨bs,fz,ar⟩ ⟨bs++ [some [.ptr d 0],some [pI x.kind, .d (sF (x.ns.map ay))],some [.d x.deed.dv]],(bs.length+2)::(bs.length+1)::fz,ar⟩:=Frm.new (xf:=[bs.length+2,bs.length+1]) (by simp);refine ajj (h.frm f) o x.deed ?_;cases m:D.gB x.deed
 ·(try simp only[RN,F,H,I,J,N,S])
  have t:D.enter x=(D,2):=by simp[Dk.enter,b,q,m]
  rw[t];exact⟨rfl,_,_,h.frm f,f.frD⟩
 have a3:kK D.su D.su.sp0 x.deed:=Yb b m;simp only[lU,be,RN,F,H,I,J,N,S];obtain⟨B,hB⟩:∃B,B=bs++ [some [.ptr d 0],some [pI x.kind, .d (sF (x.ns.map ay))],some [.d x.deed.dv]]:=⟨_,rfl⟩
 obtain⟨Z,hZ⟩:∃Z,Z=(bs.length+2)::(bs.length+1)::fz:=⟨_,rfl⟩
 have a1:B.length=bs.length+3:=by rw[hB];simp
 have Q:B[bs.length]?=some (some [.ptr d 0]):=by rw[hB,aQ rfl];rfl
 rw[<-hB,<-hZ]at f;simp only[<-hB,<-hZ];have a2:Frm ⟨B,Z,ar⟩ ⟨B++ [some [pI 0]],Z,ar⟩:=Frm.new (xf:=[]) (by simp);have adx:=f.trans a2;have z0:((0:Int) !=0)=false:=rfl;have z7:((7:Int) !=0)=true:=rfl;refine Rx (fs:=[]) (cs:=[.d (.aW [x.deed.dv]), .ptr bs.length 0]) (f.fzb h.fzb) (by kernel_rfl) ?_;refine SC.jU (SC.mono (agJ (h.frm adx) o x.deed m a3 (pb:=bs.length) ?_) ?_) ?_
 ·simp only;rw[ap (by omega)];exact Q
 ·rintro v ⟨a,c,ar'⟩ ⟨g1,L⟩
  have g:=adx.trans L;have X:=h.frm g;have K:=g.len;simp only at K;have w:a[bs.length]?=some (some [.ptr d 0]):=by
   have:=L.box bs.length (by simp only[Y,a1];omega);simp only at this;rw[this,ap (by omega)];exact Q
  have A:a[B.length]?=some (some [pI 0]):=by
   have:=L.box B.length (by simp);simp only at this;rw[this,aQ rfl];rfl
  have E:B.length∉c:=fun e=>by
   have:=(L.fz B.length (by simp)).1 e;simp only at this;have h5:=f.fzb h.fzb _ this;simp only at h5;omega
  refine⟨A,E,?_⟩;have t:D.enter x=(D.with x,0):=by simp[Dk.enter,b,q,m,g1]
  rw[t];have ajy:=X.fzb;have u:a.length∉c:=fun e=>aw _ (ajy _ e)
  have ax:bs.length≠d:=by omega
  have apr:bs.length<a.length:=(V.1 w).1;simp only[z0,RN,F,H,I,J,N,S]
  by_cases P:∃n,x.deed= .strike n
  ·obtain⟨n,P⟩:=P
   have hx:(De.strike n).dv= .iface T.bK (.agg [dI n]):=rfl;have O:(0<=n/\n<=(D.es.length:Int) - 1)/\n.toNat<D.st.length:=by
    rw[P]at m;simp only[Dk.gB,inR,aL,decide_eq_true_eq]at m;have:=o.len;omega
   have ao8:=X.box;rw[iV]at ao8;simp only at ao8;have arG:d<a.length:=by omega
   obtain⟨k2,aeV,a5,rfl,an,_,s⟩:=Io h.str (by intro e;simp at e;rw[e]at O;simp at O);have s:=s rfl;subst s;have G:ar'[k2]?=some (some ⟨1,D.st.map .bool,aeV,1⟩):=(g.row k2 (V.1 an).1).trans an;have arQ:=(V.1 G).1;have arH:∀k,d<a.length+k:=fun k=>by omega
   have ar6:∀k,bs.length<a.length+k:=fun k=>by omega
   rw[P,hx];simp only[mF,w,ao8,arG,apr,arH,ar6,bD,aQ,aV,u,Y,G,O.1.1,O.2,U,RN,F,H,I,J,N,S];refine qU (ds:=[.bool true]) G rfl (by decide) rfl rfl (by rw[getD_map O.2];exact bc 1) ?_;have aR:(D.st.map DV.bool).set n.toNat (setCells ((D.st.map DV.bool).getD n.toNat default) 0 [.bool true])=(D.st.set n.toNat true).map .bool:=by
    rw[List.map_set,getD_map O.2];rfl
   rw[aR];have j:Frm ⟨bs,fz,ar⟩ ⟨a++ [some [pI n]],a.length::c,ar'⟩:=g.trans (Frm.new (xf:=[a.length]) (by simp));obtain⟨q3,q4⟩:=(h.frm j).row arQ (D.st.set n.toNat true);refine SG q3 x (by have:=JL b;omega) (a8 ae (by decide)) (by rw[aD];exact a8 a0 (by decide)) (pb:=bs.length) (by rw[ap apr];exact w) ax fun ce' cs' M' q1 q2=> ?_
   (try simp only[RN,F,H,I,J,N,S]);have hw:D.with x={D with es:=D.es++ [x],st:=D.st.set n.toNat true++ [false]}:=by
    unfold Dk.with
    rw[P];rfl
   rw[hw];exact⟨_,_,q1,(j.frD.trans q4).trans q2⟩
  ·have hy:∀n,x.deed≠ .strike n:=fun n e=>P ⟨n,e⟩
   have hx:x.deed.dv= .iface x.deed.ty x.deed.cs:=rfl;rw[hx];simp only[fU (aod hy),aQ,aV,u,Y,RN,F,H,I,J,N,S];have j:Frm ⟨bs,fz,ar⟩ ⟨a++ [some [pI 0]],a.length::c,ar'⟩:=g.trans (Frm.new (xf:=[a.length]) (by simp));refine SG (h.frm j) x (by have:=JL b;omega) (a8 ae (by decide)) (a8 a0 (by decide)) (pb:=bs.length) (by rw[ap apr];exact w) ax fun ce' cs' M' q1 q2=> ?_
   (try simp only[RN,F,H,I,J,N,S]);have hw:D.with x={D with es:=D.es++ [x],st:=D.st++ [false]}:=by
    unfold Dk.with
    cases hd:x.deed with
    |strike n=>exact absurd hd (hy n)
    | _=>rfl
   rw[hw];exact⟨_,_,q1,j.frD.trans q2⟩
 ·rintro dd ⟨a,c,ar'⟩ ⟨g1,L,g3⟩
  have g:=adx.trans g3;have K:=g3.len;simp only[Y,am,ao]at K;have A:a[B.length]?=some (some [pI 0]):=by
   have:=g3.box B.length (by simp);simp only at this;rw[this,aQ rfl];rfl
  have E:B.length∉c:=fun e=>by
   have:=(g3.fz B.length (by simp)).1 e;simp only at this;have h5:=f.fzb h.fzb _ this;simp only at h5;omega
  have ajy:=g.fzb h.fzb;have u:a.length∉c:=fun e=>aw _ (ajy _ e)
  have t:D.enter x=(D,7):=by simp[Dk.enter,b,q,m,g1]
  refine⟨A,E,u, .inl ⟨L,fun y=> ?_⟩⟩;rw[t];simp only[z7,RN,F,H,I,J,N,S];have j:Frm ⟨bs,fz,ar⟩ ⟨(a++ [y]).set B.length (some [pI 7]),c,ar'⟩:=g.ak8 (by simp only;omega);exact⟨_,_,h.frm j,j.frD⟩
end Go.Tel
namespace Go.Tel
open Go.Am
def nG (f1 f2 e1 e2:Bool)(D:Dk)(t:Sp):List DV:=[.aW (t.cells f1 f2 D.su), .aW (JG e1 e2 D)]
def xG (f1 f2 e1 e2:Bool)(D:Dk)(t:Sp):DV:= .agg (nG f1 f2 e1 e2 D t)
def iM {f1 f2 e1 e2:Bool}{D:Dk}{t:Sp}:xG f1 f2 e1 e2 D t= .agg [.aW (t.cells f1 f2 D.su), .aW (JG e1 e2 D)]:=rfl
def Ans (f:FuncId)(ds:List DV)(l:List Int)(e:Int):Prop:=
 Pure C f ds (.tup [.tsl 0 0 0,pI e]) [⟨1,l.map ay,0,xC l⟩]\/(l=[]/\Pure C f ds (.d (.tup [.slice true [],dI e])) [])
variable{f:FuncId}{ds:List DV}{l:List Int}{e:Int}
def gQ (a:SC C f (ds.map .d) bY (fun p M=>∃c,p= .tup [c,pI e]/\KR M c 1 (l.map ay) (xC l)) (fun _ _=>False)):Ans f ds l e:=by
 refine .inl (Ee (SC.mono a fun p M h=> ?_));obtain⟨c,rfl,k,ver,rfl,h⟩:=h;refine⟨[(k,0)],⟨fun q b=>by simp only[ax]at b;subst b;simp[Ai,h],by simp⟩,?_,?_⟩
 ·simp[ren,akG,UY,Mem.row,h,Nu]
 ·simp[mkRow,h]
def zY (hl:l=[])(h:Pure C f ds (.d (.tup [.slice true [],dI e])) []):Ans f ds l e:= .inr ⟨hl,h⟩
variable{base:Nat}{M:Mem}{K:PV->Mem->Prop}{KP:DV->Mem->Prop}
def yM {C:Ctx}{z:DV}{k:IntKind}{n:Int}:au C base (.nN 1 [z] [0]) [.d (.int k n)] M K KP=K (.tsl M.aB.length 0 0) {M with aB:=M.aB++ [some ⟨1,[.int k n],0,1⟩]}:=
 H8 rfl (by decide)
def adh {C:Ctx}{z1 b:DV}{k k':IntKind}{n a:Int}:au C base (.nN 1 [z1,b] [0,1]) [.d (.int k n), .d (.int k' a)] M K KP=K (.tsl M.aB.length 0 0) {M with aB:=M.aB++ [some ⟨1,[.int k n, .int k' a],0,1⟩]}:=by
 simp[au,iZ,wI,DV.strip,DV.cells,DV.fits,DV.one]
def adi {C:Ctx}{z1 e f:DV}{k k' a:IntKind}{n b c:Int}:au C base (.nN 1 [z1,e,f] [0,1,2]) [.d (.int k n), .d (.int k' b), .d (.int a c)] M K KP=K (.tsl M.aB.length 0 0) {M with aB:=M.aB++ [some ⟨1,[.int k n, .int k' b, .int a c],0,1⟩]}:=by
 simp[au,iZ,wI,DV.strip,DV.cells,DV.fits,DV.one]
section
variable (f1 f2 e1 e2:Bool){D:Dk}{t:Sp}(ns:List Int)
def apO:Ans 85 [xG f1 f2 e1 e2 D t,sF (ns.map ay)] [t.kE] 0:=by
 refine gQ (aG mixed rfl Bc ?_);simp only[qI,dY,iM,cO,yM,ae,bI,dR,RN,F,H,I,J,N,S];exact⟨_,rfl,0,0,rfl,rfl⟩
def aou (a:D.Ok)(d:ns.length=1):Ans 84 [xG f1 f2 e1 e2 D t,sF (ns.map ay)] [(D.su.dvd.cuts (ns.getD 0 default)).1.circle,(D.su.dvd.cuts (ns.getD 0 default)).1.turns,(D.su.dvd.cuts (ns.getD 0 default)).1.holes] (D.su.dvd.cuts (ns.getD 0 default)).2:=by
 have b:=acB D.su.dvd (ns.getD 0 default) (by have:=(Su.RH a.su).ci;omega);rw[sZ,EI]at b;have c:0<ns.length:=by omega
 refine gQ (aG mixed rfl Ba ?_);simp only[qH,dY,iM,cO,j0,t0,c,U,getD_map,aI,RN,F,H,I,J,N,S];refine ak rfl rfl b ?_;simp only[adi,ae,bI,dR,RN,F,H,I,J,N,S];exact⟨_,rfl,0,0,rfl,rfl⟩
def aot (d:D.Ok)(f:zK D.su 24 t)(h:ns.length=1):Ans 78 [xG f1 f2 e1 e2 D t,sF (ns.map ay)]
  (if inR (ns.getD 0 default) 0 (D.su.pc.hands.length - 1)then[Ec D.su t (ns.getD 0 default).toNat]else[]) (if inR (ns.getD 0 default) 0 (D.su.pc.hands.length - 1)then 0 else 2):=by
 have b:=FZ e1 e2 D (by have:=d.small;omega) (ns.getD 0 default);rw[uP]at b;have e:0<ns.length:=by omega
 cases h1:inR (ns.getD 0 default) 0 ((D.su.pc.hands.length:Int) - 1)
 ·refine zY (by simp) (ah mixed rfl qj ?_)
  simp only[kM,dY,iM,j0,t0,e,U,getD_map,aI,RN,F,H,I,J,N,S];refine ak rfl rfl b ?_;simp only[h1,RN,F,H,I,J,N,S];simp
 ·have hh:0<=ns.getD 0 default/\ns.getD 0 default<=(D.su.pc.hands.length:Int) - 1:=by simpa[inR]using h1
  obtain⟨a,c⟩:∃a:Nat,ns.getD 0 default=a:=⟨(ns.getD 0 default).toNat,by omega⟩
  have g:=afw f1 f2 D.su t a f.pc (by rw[f.hh];omega);rw[c]at h1 b⊢;refine gQ (aG mixed rfl qj ?_);simp only[kM,dY,iM,j0,t0,e,U,getD_map,aI,c,RN,F,H,I,J,N,S];refine ak rfl rfl b ?_;simp only[h1,j0,t0,e,U,getD_map,aI,c,RN,F,H,I,J,N,S];refine ak rfl rfl g ?_;simp only[yM,ae,bI,dR,if_true,aq,RN,F,H,I,J,N,S];exact⟨_,rfl,0,0,rfl,rfl⟩
end
end Go.Tel
namespace Go.Tel
open Go.Am
def WV:List Int->Int->Int->Int
 | [],_,l=>l
 |s::r,a,l=>WV r a (if s<=a then s else l)
def Sp.turns (t:Sp)(day:Int):Int:=day - WV t.sets day 0
section
variable (f1 f2 e1 e2:Bool){D:Dk}{t:Sp}(ns:List Int)
def ZE (h:zK D.su 24 t)(day:Int)(hd:0<=day/\day<=1000000):Pure C 171 [xG f1 f2 e1 e2 D t,dI day] (pI (t.turns day)) []:=by
 have n:=h.se;refine ah mixed rfl zS ?_;simp only[o7,aJ,iM,cO,U,RN,F,H,I,J,N,S];refine aH t.sets.length (fun i (a:Int)=>⟨[(1,pI day),(5,pI a),(12, .d (.slice f2 (t.sets.map ay))),(13,pI t.sets.length),(14,pI i)],⟨[some [.d (.aW (t.cells f1 f2 D.su)), .d (.aW (JG e1 e2 D))]],[0],[]⟩⟩)
  (fun i a=>WV t.sets day 0=WV (t.sets.drop i) day a/\0<=a/\a<=366) 0 0 (az _) (by rw[cO];rfl) ⟨rfl,by decide,by decide⟩ (fun i a f e=> ?_) (fun a e=> ?_)
 ·obtain⟨l,m,g⟩:=rng f (by omega)
  obtain⟨c,j,k⟩:=e;rw[drop_cons f,WV]at c;have p:=h.sv _ (getD_mem f);simp only[l,m,f,getD_map,aI,aq,U,RN,F,H,I,J,N,S]
  by_cases b:t.sets.getD i default<=day
  ·rw[if_pos b]at c
   simp only[b,g,RN,F,H,I,J,N,S];exact bn (t.sets.getD i default) f rfl ⟨c,by omega,by omega⟩
  ·rw[if_neg b]at c
   simp only[b,g,RN,F,H,I,J,N,S];exact bn a f rfl ⟨c,j,k⟩
 ·obtain⟨c,j,k⟩:=e
  rw[bA,WV]at c;have o:cB .i64 (day - a)=day - a:=aF (by omega);simp only[aM,o,RN,F,H,I,J,N,S];simp only[Sp.turns,c]
def aq6 (c:D.Ok)(g:zK D.su 24 t)(m:ns.length=2):Ans 80 [xG f1 f2 e1 e2 D t,sF (ns.map ay)]
  (if inR (ns.getD 0 default) 0 (D.su.pc.hands.length - 1)&&inR (ns.getD 1 default) 1 D.su.days.length then[(rG t.pc (ns.getD 0 default) (t.tg.getD (ns.getD 0 default).toNat default) (t.turns (ns.getD 1 default))).1]else[])
  (if inR (ns.getD 0 default) 0 (D.su.pc.hands.length - 1)&&inR (ns.getD 1 default) 1 D.su.days.length then(rG t.pc (ns.getD 0 default) (t.tg.getD (ns.getD 0 default).toNat default) (t.turns (ns.getD 1 default))).2 else 2):=by
 have e:=FZ e1 e2 D (by have:=c.small;omega) (ns.getD 0 default);have hd:=Ru e1 e2 D (ns.getD 1 default);rw[uP]at e hd;have d:(0:Int)<=1:=by omega
 have b:0<ns.length:=by omega
 have l1:1<ns.length:=by omega
 have l:=c.small;cases h1:inR (ns.getD 0 default) 0 ((D.su.pc.hands.length:Int) - 1)
 ·refine zY (by simp) (ah mixed rfl kZ ?_)
  simp only[ji,dY,iM,j0,t0,b,U,getD_map,aI,RN,F,H,I,J,N,S];refine ak rfl rfl e ?_;simp only[h1,RN,F,H,I,J,N,S];simp
 cases h2:inR (ns.getD 1 default) 1 (D.su.days.length:Int)
 ·refine zY (by simp) (ah mixed rfl kZ ?_)
  simp only[ji,dY,iM,j0,t0,b,d,t1,l1,U,getD_map,aI,RN,F,H,I,J,N,S];refine ak rfl rfl e ?_;simp only[h1,j0,t0,b,d,t1,l1,U,getD_map,aI,RN,F,H,I,J,N,S];refine ak rfl rfl hd ?_;simp only[h2,RN,F,H,I,J,N,S];simp
 have hh:0<=ns.getD 0 default/\ns.getD 0 default<=(D.su.pc.hands.length:Int) - 1:=by simpa[inR]using h1
 have j:1<=ns.getD 1 default/\ns.getD 1 default<=(D.su.days.length:Int):=by simpa[inR]using h2
 have i:=yJ D.su;have k:=Pc.xA g.pc;have a:=ZE f1 f2 e1 e2 (D:=D) g (ns.getD 1 default) (by omega);have h:=ae3 t.pc (by omega) (by omega) (ns.getD 0 default) (t.tg.getD (ns.getD 0 default).toNat default) (t.turns (ns.getD 1 default));have f:(ns.getD 0 default).toNat<t.tg.length:=by rw[g.tl];omega
 rw[iM]at a;rw[dZ,bW]at h;simp only[Bool.and_self,if_true];refine gQ (aG mixed rfl kZ ?_);simp only[ji,dY,iM,j0,t0,b,d,t1,l1,U,getD_map,aI,RN,F,H,I,J,N,S];refine ak rfl rfl e ?_;simp only[h1,j0,t0,b,d,t1,l1,U,getD_map,aI,RN,F,H,I,J,N,S];refine ak rfl rfl hd ?_;rw[cO]at a;simp only[h2,cO,j0,t0,b,d,t1,l1,U,getD_map,aI,hh.1,f,bW,RN,F,H,I,J,N,S];refine ak rfl rfl a ?_;(try simp only[RN,F,H,I,J,N,S]);refine ak rfl rfl h ?_;simp only[yM,ae,bI,dR,if_true,RN,F,H,I,J,N,S];exact⟨_,rfl,0,0,rfl,rfl⟩
def aow (h:D.Ok)(s:ns.length=1):Ans 83 [xG f1 f2 e1 e2 D t,sF (ns.map ay)]
  (if inR (ns.getD 0 default) 1 D.su.days.length then[(SA D.su.cal D.su.year.toNat (D.su.first+(ns.getD 0 default - 1))).m,(SA D.su.cal D.su.year.toNat (D.su.first+(ns.getD 0 default - 1))).d]else[])
  (if inR (ns.getD 0 default) 1 D.su.days.length then 0 else 2):=by
 have hd:=Ru e1 e2 D (ns.getD 0 default);rw[uP]at hd;have j:0<ns.length:=by omega
 cases h2:inR (ns.getD 0 default) 1 (D.su.days.length:Int)
 ·refine zY (by simp) (ah mixed rfl ql ?_)
  simp only[kN,dY,iM,j0,t0,j,U,getD_map,aI,RN,F,H,I,J,N,S];refine ak rfl rfl hd ?_;simp only[h2,RN,F,H,I,J,N,S];simp
 have n:1<=ns.getD 0 default/\ns.getD 0 default<=(D.su.days.length:Int):=by simpa[inR]using h2
 have l:=yJ D.su;obtain⟨a,e⟩:∃a:Nat,ns.getD 0 default=((a+1:Nat):Int):=⟨(ns.getD 0 default - 1).toNat,by omega⟩
 have b:a<D.su.days.length:=by omega
 have r:cB .i64 (((a+1:Nat):Int) - 1)=(a:Int):=by rw[aF (by omega)];omega
 have p:(0:Int)<=(a:Int):=by omega
 have f:a<D.su.dur:=by simpa[Su.days,Su.pJ]using b
 have g:D.su.days.getD a default=(D.su.first+a,D.su.works (D.su.first+a)):=by
  simp only[Su.days,Su.pJ,List.getD_eq_getElem?_getD,cf,List.getElem?_range f,bL,a7]
 obtain⟨v,_,_,_,q,_,_,w,_⟩:=Su.facts h.su;have o:=Dy D.su.cal D.su.year.toNat;have k:=D.su.cal.kG D.su.year.toNat;have c:=aof D.su.cal D.su.year.toNat (D.su.first+a) q (by omega) (by simp only[Su.first];omega) (by
  have e1:D.su.cal.first (D.su.year.toNat+1)=D.su.cal.first D.su.year.toNat+wH (D.su.cal.leap D.su.year):=by
   rw[Cal.first];rw[show((D.su.year.toNat:Nat):Int)=D.su.year by omega]
  have e2:(D.su.dur:Int)=wH (D.su.cal.leap D.su.year):=by
   have:=mY (D.su.cal.leap D.su.year);simp only[Su.dur];split at this<;>omega
  rw[e1,<-e2,Su.first];omega)
 have u:(ns.getD 0 default - 1)=(a:Int):=by omega
 rw[fE,pY]at c;rw[e]at hd h2;refine gQ (aG mixed rfl ql ?_);simp only[kN,dY,iM,j0,t0,j,U,getD_map,aI,e,RN,F,H,I,J,N,S];refine ak rfl rfl hd ?_;simp only[h2,cO,j0,t0,j,U,getD_map,aI,e,r,p,b,aq,ac8,g,RN,F,H,I,J,N,S];refine ak rfl rfl c ?_;simp only[adh,ae,bI,dR,if_true,RN,F,H,I,J,N,S];refine⟨_,rfl,0,0,rfl,?_⟩;have i:(((a+1:Nat):Int) - 1)=(a:Int):=by omega
 rw[i]
 rfl
end
end Go.Tel
namespace Go.Tel
open Go.Am
def vK (p:Int->Bool):Nat->Int->Option Int
 |0,_=>none
 |k+1,n=>if p n then some n else vK p k (n+1)
def Dk.EF (D:Dk)(d:Int):Bool:=(D.su.days.getD (d - 1).toNat default).2
section
variable (f1 f2 e1 e2:Bool){D:Dk}{t:Sp}(ns:List Int)
def alB (d:Int)(hd:1<=d/\d<=D.su.days.length):Pure C 174 [dI d, .aW (nG f1 f2 e1 e2 D t)] (.d (.bool (D.EF d))) []:=by
 have a:=yJ D.su;have c:cB .i64 (d - 1)=d - 1:=aF (by omega);have j0:0<=d - 1:=by omega
 have b:(d - 1).toNat<D.su.days.length:=by omega
 refine ah mixed rfl yw ?_;simp only[mZ,Za,nG,cO,c,j0,b,U,getD_map,ac8,RN,F,H,I,J,N,S]
 rfl
def adp (a b:Int)(fn:FuncId)(c:List DV)(p:Int->Bool)(o:1<=a/\a<=b/\b<=1000000)(hc:callable C.P fn=true)(j:∀x,1<=x->x<=b->Pure C fn ([dI x]++c.map DV.strip) (.d (.bool (p x))) []):
  Pure C 173 [dI a,dI b, .func (.func fn) [] c] (.d (.tup [dI ((vK p (b+1 - a).toNat a).getD 0), .bool (vK p (b+1 - a).toNat a).isSome])) []:=by
 refine ah mixed rfl BO ?_;simp only[rU,QB,RN,F,H,I,J,N,S];refine jo (fun(n:Int)=>⟨[(1,pI b),(2, .d (.func (.func fn) [] c)),(8,pI n)],⟨[],[],[]⟩⟩)
  (fun n=>1<=n/\n<=b+1/\vK p (b+1 - a).toNat a=vK p (b+1 - n).toNat n) (fun n=>(b+1 - n).toNat) a rfl ⟨by omega,by omega,rfl⟩ (fun n i=> ?_)
 obtain⟨l,q,e⟩:=i
 by_cases f:n<=b
 ·obtain⟨k,h⟩:∃k,(b+1 - n).toNat=k+1:=⟨(b - n).toNat,by omega⟩
  rw[h,vK]at e;have m:cB .i64 (n+1)=n+1:=aF (by omega);simp only[f,RN,F,H,I,J,N,S];refine KX rfl hc rfl (j n l f) ?_;cases g:p n
  ·rw[g]at e
   simp only[Bool.false_eq_true,if_false]at e;simp only[m,RN,F,H,I,J,N,S];exact uN (a:=n) (μ:=fun n=>(b+1 - n).toNat) (n+1) (by show(b+1 - (n+1)).toNat<(b+1 - n).toNat;omega) rfl ⟨by omega,by omega,by rw[e,show(b+1 - (n+1)).toNat=k by omega]⟩
  ·rw[g]at e
   simp only[if_true]at e;simp only[e,a7,bv,RN,F,H,I,J,N,S]
 ·rw[show(b+1 - n).toNat=0 by omega,vK]at e
  simp only[f,e,bj,bu,RN,F,H,I,J,N,S]
def anU (g:D.Ok)(h:ns.length=1):Ans 82 [xG f1 f2 e1 e2 D t,sF (ns.map ay)]
  (if inR (ns.getD 0 default) 1 D.su.days.length then(match vK D.EF ((D.su.days.length:Int)+1 - ns.getD 0 default).toNat (ns.getD 0 default)with|some d=>[d]|none=>[])else[])
  (if inR (ns.getD 0 default) 1 D.su.days.length then(match vK D.EF ((D.su.days.length:Int)+1 - ns.getD 0 default).toNat (ns.getD 0 default)with|some _=>0|none=>5)else 2):=by
 have hd:=Ru e1 e2 D (ns.getD 0 default);rw[uP]at hd;have b:0<ns.length:=by omega
 cases h2:inR (ns.getD 0 default) 1 (D.su.days.length:Int)
 ·refine zY (by simp) (ah mixed rfl jZ ?_)
  simp only[iP,dY,iM,j0,t0,b,U,getD_map,aI,RN,F,H,I,J,N,S];refine ak rfl rfl hd ?_;simp only[h2,RN,F,H,I,J,N,S];simp
 have f:1<=ns.getD 0 default/\ns.getD 0 default<=(D.su.days.length:Int):=by simpa[inR]using h2
 have e:=yJ D.su;have a:=adp (ns.getD 0 default) (D.su.days.length:Int) 174 [.aW (nG f1 f2 e1 e2 D t)] D.EF (by omega) (by kernel_rfl) (fun x h1 h2=>alB f1 f2 e1 e2 x ⟨h1,h2⟩);simp only[if_true];cases c:vK D.EF ((D.su.days.length:Int)+1 - ns.getD 0 default).toNat (ns.getD 0 default)with
 |none=>
  rw[c]at a;refine zY rfl (ah mixed rfl jZ ?_);simp only[iP,dY,iM,j0,t0,b,U,getD_map,aI,RN,F,H,I,J,N,S];refine ak rfl rfl hd ?_;simp only[h2,cO,j0,t0,b,U,getD_map,aI,RN,F,H,I,J,N,S];rw[nG,cO]at a;refine ak rfl rfl a ?_;simp only[bu,RN,F,H,I,J,N,S]
 |some x=>
  rw[c]at a;refine gQ (aG mixed rfl jZ ?_);simp only[iP,dY,iM,j0,t0,b,U,getD_map,aI,RN,F,H,I,J,N,S];refine ak rfl rfl hd ?_;simp only[h2,cO,j0,t0,b,U,getD_map,aI,RN,F,H,I,J,N,S];rw[nG,cO]at a;refine ak rfl rfl a ?_;simp only[bv,a7,yM,ae,bI,dR,RN,F,H,I,J,N,S];exact⟨_,rfl,0,0,rfl,rfl⟩
def ZF (s:Su)(t:Sp)(turns:Int):List Fr->Nat->Bool
 | [],_=>false
 |f::l,h=> !TD s t h f turns||ZF s t turns l (h+1)
def XM (s:Su)(t:Sp)(i:Nat):Bool:=ZF s t (t.turns ((i:Int)+1)) t.tg 0
def vW (s:Su)(t:Sp)(n:Nat):Int:=(((cr n).filter (XM s t)).length:Nat)
def acA (s:Su)(t:Sp)(n:Nat):vW s t (n+1)=if XM s t n then vW s t n+1 else vW s t n:=by
 simp only[vW,cn,List.filter_append,Y,List.filter_cons,List.filter_nil]
 split<;>simp
def aic (s:Su)(t:Sp)(n:Nat):0<=vW s t n/\vW s t n<=n:=by
 have:=List.length_filter_le (XM s t) (cr n);simp only[cg]at this;simp only[vW];omega
def anX (m:D.Ok)(g:zK D.su 24 t):Ans 81 [xG f1 f2 e1 e2 D t,sF (ns.map ay)] [vW D.su t D.su.days.length] 0:=by
 have p:=yJ D.su;have q:=Pc.xA g.pc;have f:0<=D.su.lim/\D.su.lim<=10800:=by simpa[inR]using(Su.facts m.su).2.2.1
 have r:t.tg.length<=4:=by rw[g.tl,<-g.hh];omega
 refine gQ (aG mixed rfl zT ?_);simp only[o8,dY,iM,cO,U,ae,RN,F,H,I,J,N,S];refine aH D.su.days.length (fun i (_:Unit)=>⟨[(2, .d (.aW (nG f1 f2 e1 e2 D t))),(6,pI (vW D.su t i)),(15,pI D.su.days.length),(16,pI i)],⟨[some ((nG f1 f2 e1 e2 D t).map .d)],[0],[]⟩⟩)
  (fun _ _=>True) 0 () (az _) (by rw[nG,cO];rfl) trivial (fun i _ k _=> ?_) (fun _ _=> ?_)
 ·obtain⟨o,y,n⟩:=rng k (by omega)
  have s:=aic D.su t i;have w:cB .i64 (vW D.su t i+1)=vW D.su t i+1:=aF (by omega);have x:cB .i64 ((i:Int)+1)=(i:Int)+1:=aF (by omega);have c:=ZE f1 f2 e1 e2 (D:=D) g ((i:Int)+1) (by omega);rw[iM]at c;have b:=acA D.su t i;simp only[o,nG,cO,U,RN,F,H,I,J,N,S];refine aH t.tg.length (fun h (_:Unit)=>⟨[(2, .d (.aW (nG f1 f2 e1 e2 D t))),(6,pI (vW D.su t i)),(7,pI i),(15,pI D.su.days.length),(16,pI i),(24, .d (sF (t.tg.map Fr.dv))),(25,pI t.tg.length),(26,pI h)],⟨[some ((nG f1 f2 e1 e2 D t).map .d)],[0],[]⟩⟩)
   (fun h _=>XM D.su t i=ZF D.su t (t.turns ((i:Int)+1)) (t.tg.drop h) h) 0 () (az _) (by rw[nG,cO];rfl) rfl (fun h _ j a=> ?_) (fun _ a=> ?_)
  ·obtain⟨u,v,k6⟩:=rng j (by omega)
   rw[drop_cons j,ZF]at a;have l:=ajM f1 f2 D.su t h (t.tg.getD h default) (t.turns ((i:Int)+1)) (by omega) (by omega) f;rw[bW]at l;rw[cO]at c l;simp only[nG,cO,u,v,j,getD_map,bW,aq,U,x,RN,F,H,I,J,N,S];refine ak rfl rfl c ?_;(try simp only[RN,F,H,I,J,N,S]);refine ak rfl rfl l ?_;cases e:TD D.su t h (t.tg.getD h default) (t.turns ((i:Int)+1))
   ·rw[e]at a
    simp only[Bool.not_false,Bool.true_or]at a;rw[if_pos a]at b;simp only[w,n,RN,F,H,I,J,N,S];refine jv 1 0 () k ?_ trivial (by simp) (by simp) rfl rfl;rw[b];rfl
   ·rw[e]at a
    simp only[ct,Bool.false_or]at a;simp only[k6,RN,F,H,I,J,N,S];exact jv 1 0 () j rfl a (by simp) (by simp) rfl rfl
  ·rw[bA,ZF]at a
   rw[if_neg (by rw[a];simp)]at b;simp only[aM,n,RN,F,H,I,J,N,S];refine bn () k ?_ trivial;rw[b,nG,cO];rfl
 ·simp only[aM,yM,ae,bI,dR,RN,F,H,I,J,N,S]
  exact⟨_,rfl,0,0,rfl,rfl⟩
end
end Go.Tel
namespace Go.Am
section
variable {C:Ctx}{base:Nat}{KP:DV->Mem->Prop}{K:PV->Mem->Prop}{M:Mem}
def adX {ok:Bool}{ks:List Nat}{z k:DV}{l:List (DV×DV)}(r:Option DV)(h1:iL ks k k=some true)(h2:pO ks l k=some r)(a:K (.d (FW ok z r)) M):au C base (.Iz ok ks z) [.d (.map (some l)), .d k] M K KP:=by
 simp only[au,h1,h2];exact a
def aah {z1 h i:DV}{e f g:IntKind}{a b c:Int}:au C base (.gu 1 [z1,h,i] [0,1,2]) [.d (.int e a), .d (.int f b), .d (.int g c)] M K KP=K (.d (.slice true [.int e a, .int f b, .int g c])) M:=by
 have:=FV (M:=M) (ds:=[DV.int e a, .int f b, .int g c]);simp only[aE,bl]at this;simp[au,dF,datum,wI,this,DV.strip,DV.cells]
end
end Go.Am
namespace Go.Tel
open Go.Am
def alh {α:Type}{l:List α}{x y:α}:xC (l++ [x,y])=1:=by cases l<;>rfl
def Vl {α:Type}{l:List α}{x y z:α}:xC (l++ [x,y,z])=1:=by cases l<;>rfl
def Ef (p:Pc)(h:Int):List Int:=[((mW p).getD h.toNat default).n,((mW p).getD h.toNat default).d]
def ajr (p:Pc):List Int:=p.hands.flatMap (Ef p)
def Ii (op:List (Int×Fr))(i:Nat):List Int:=match fZ op i with|some f=>[(i:Int),f.n,f.d]|none=>[]
def qo (op:List (Int×Fr))(n:Nat):List Int:=(cr n).flatMap (Ii op)
def I9 (op:List (Int×Fr))(n:Nat):qo op (n+1)=qo op n++Ii op n:=by simp[qo,cn]
def L8 (op:List (Int×Fr)):∀n,(qo op n).length<=3*n
 |0=>by simp[qo]
 |n+1=>by
  have:=L8 op n;have h:(Ii op n).length<=3:=by unfold Ii;split<;>simp
  rw[I9,Y];omega
def aos (c:Chg):List Int:=[c.link,c.pr.a,c.pr.b]
def IW (l:List Chg):List Int:=l.flatMap aos
def agy (l:List Chg):(IW l).length=3*l.length:=by
 induction l with
 |nil=>rfl
 |cons x l a=>simp only[IW,bS,Y,am]at a⊢;rw[a];simp[aos];omega
def aam (p:Pc)(l:List Int):(l.flatMap (Ef p)).length=2*l.length:=by
 induction l with
 |nil=>rfl
 |cons x l a=>simp only[bS,Y,am,a];simp[Ef];omega
section
variable (f1 f2 e1 e2:Bool){D:Dk}{t:Sp}(ns:List Int)
def amq (f:zK D.su 24 t):Ans 75 [xG f1 f2 e1 e2 D t,sF (ns.map ay)] (ajr t.pc) 0:=by
 have m:=Pc.xA f.pc;have l:=Pc.good f.pc;have g:=alG t.pc f.pc;rw[dZ]at g;refine gQ (aG mixed rfl zQ ?_);simp only[oZ,dY,iM,cO,U,ae,RN,F,H,I,J,N,S];refine ak rfl rfl g ?_;simp only[U,RN,F,H,I,J,N,S];refine aH t.pc.hands.length (fun i (v:Nat)=>⟨[(6, .d (sF ((mW t.pc).map Fr.dv))),(8,pI 0),(9, .tsl 1 v 0),(29, .d (sF (t.pc.hands.map ay))),(30,pI t.pc.hands.length),(31,pI i)],
   ⟨[some ((nG f1 f2 e1 e2 D t).map .d)],[0],[some ⟨1,[],0,0⟩,some ⟨1,((t.pc.hands.take i).flatMap (Ef t.pc)).map ay,v,xC ((t.pc.hands.take i).flatMap (Ef t.pc))⟩]⟩⟩)
  (fun _ _=>True) 0 0 (az _) (by rw[nG,cO];rfl) trivial (fun i v a _=> ?_) (fun v _=> ?_)
 ·obtain⟨h,j,k⟩:=rng a (by omega)
  have hh:=l.hd _ (getD_mem a);have o:0<=t.pc.hands.getD i default:=by omega
  have p:(t.pc.hands.getD i default).toNat<(mW t.pc).length:=by simp only[mW,am,U,cg];omega
  have e:(t.pc.hands.take (i+1)).flatMap (Ef t.pc)=(t.pc.hands.take i).flatMap (Ef t.pc)++ [((mW t.pc).getD (t.pc.hands.getD i default).toNat default).n,((mW t.pc).getD (t.pc.hands.getD i default).toNat default).d]:=by
   rw[aS a];simp[Ef]
  have b:=aam t.pc (t.pc.hands.take i);have c:¬xC ((t.pc.hands.take i).flatMap (Ef t.pc))=2:=Ip;simp only[h,j,a,o,p,getD_map,aI,bW,aq,U,Lh,c,RN,F,H,I,J,N,S];refine⟨by rintro y (rfl|rfl)<;>rfl,by simp,by rw[b];simp only[ck];omega,?_⟩;simp only[k,RN,F,H,I,J,N,S];refine bn (v+1) a ?_ trivial;rw[e,alh];simp[ay]
 ·simp only[aM,bI,dR,RN,F,H,I,J,N,S]
  rw[br];exact⟨_,rfl,1,v,rfl,rfl⟩
def aki (l:zK D.su 24 t):Ans 77 [xG f1 f2 e1 e2 D t,sF (ns.map ay)] (qo t.op t.pc.hands.length) 0:=by
 have j:=Pc.xA l.pc;refine gQ (aG mixed rfl yT ?_);simp only[nT,dY,iM,cO,U,ae,RN,F,H,I,J,N,S];refine aH t.pc.hands.length (fun i (v:Nat)=>⟨[(2, .d (.aW (nG f1 f2 e1 e2 D t))),(6, .tsl 1 v 0),(17,pI t.pc.hands.length),(18,pI i)],
   ⟨[some ((nG f1 f2 e1 e2 D t).map .d)],[0],[some ⟨1,[],0,0⟩,some ⟨1,(qo t.op i).map ay,v,xC (qo t.op i)⟩]⟩⟩)
  (fun _ _=>True) 0 0 (az _) (by rw[nG,cO];rfl) trivial (fun i v b _=> ?_) (fun v _=> ?_)
 ·obtain⟨h,m,e⟩:=rng b (by omega)
  have k:=L8 t.op i;have c:¬xC (qo t.op i)=2:=Ip;have a:=I9 t.op i;simp only[h,nG,cO,RN,F,H,I,J,N,S];refine adX ((fZ t.op i).map Fr.dv) (wL i) (Ih _ _) ?_;cases g:fZ t.op i with
  |none=>
   rw[Ii,g,bp]at a;simp only[FW,be,bj,bu,av,ae,or_false,e,RN,F,H,I,J,N,S];refine jv 1 2 v b ?_ trivial (by simp) (by simp) rfl rfl;rw[a];rfl
  |some f=>
   rw[Ii,g]at a;simp only[FW,bL,a7,bv,bW,av,ae,or_false,aah,c,U,RN,F,H,I,J,N,S];refine⟨by rintro y (rfl|rfl|rfl)<;>rfl,by simp,by omega,?_⟩;simp only[e,RN,F,H,I,J,N,S];refine jv 1 2 (v+1) b ?_ trivial (by simp) (by simp) rfl rfl;rw[a,Vl];simp[ay]
 ·simp only[aM,bI,dR,RN,F,H,I,J,N,S]
  exact⟨_,rfl,1,v,rfl,rfl⟩
def uU (D:Dk)(t:Sp)(hand a b:Int):List Int×Int:=
 if inR hand 0 (D.su.pc.hands.length - 1)&&aT a&&aT b&&inR (b - a) 0 10 then
  (match fZ t.op hand with
  |none=>([],7)
  |some f=>(IW (t.pc.changes a b hand f).1,(t.pc.changes a b hand f).2))
 else([],2)
def ZU (p:Pc)(a b h:Int)(f:Fr):(p.changes a b h f).1.length<=2:=by
 unfold Pc.changes
 split
 ·split
  ·rename_i c;have:=xg c;simp only;omega
  ·split
   ·rename_i c;have:=xg c;simp only;omega
   ·split
    ·rename_i c;have:=xg c;simp only;omega
    ·simp
 ·simp
def apI (E:D.Ok)(T:zK D.su 24 t)(V:ns.length=3):Ans 79 [xG f1 f2 e1 e2 D t,sF (ns.map ay)]
  (uU D t (ns.getD 0 default) (ns.getD 1 default) (ns.getD 2 default)).1 (uU D t (ns.getD 0 default) (ns.getD 1 default) (ns.getD 2 default)).2:=by
 have R:=Pc.xA T.pc;have j:=FZ e1 e2 D (by have:=E.small;omega) (ns.getD 0 default);rw[uP]at j;have u:0<ns.length:=by omega
 have q:(0:Int)<=1:=by omega
 have l1:1<ns.length:=by omega
 have s:(0:Int)<=2:=by omega
 have l2:2<ns.length:=by omega
 generalize m:ns.getD 0 default=A at*;generalize o:ns.getD 1 default=B at*;generalize p:ns.getD 2 default=Cc at*;cases h1:inR A 0 ((D.su.pc.hands.length:Int) - 1)
 ·have c:uU D t A B Cc=([],2):=by simp[uU,h1]
  rw[c];refine gQ (aG mixed rfl fD ?_);simp only[dQ,dY,iM,j0,t0,u,q,t1,l1,s,t2,l2,U,getD_map,aI,m,o,p,RN,F,H,I,J,N,S];refine ak rfl rfl j ?_;simp only[h1,bI,dR,RN,F,H,I,J,N,S];exact⟨_,rfl,1,0,rfl,rfl⟩
 cases h2:aT B
 ·have c:uU D t A B Cc=([],2):=by simp[uU,h2]
  rw[c];refine gQ (aG mixed rfl fD ?_);simp only[dQ,dY,iM,j0,t0,u,q,t1,l1,s,t2,l2,U,getD_map,aI,m,o,p,RN,F,H,I,J,N,S];refine ak rfl rfl j ?_;simp only[h1,RN,F,H,I,J,N,S];refine ak rfl rfl (l7 _) ?_;simp only[h2,bI,dR,RN,F,H,I,J,N,S];exact⟨_,rfl,1,0,rfl,rfl⟩
 cases g:aT Cc
 ·have c:uU D t A B Cc=([],2):=by simp[uU,g]
  rw[c];refine gQ (aG mixed rfl fD ?_);simp only[dQ,dY,iM,j0,t0,u,q,t1,l1,s,t2,l2,U,getD_map,aI,m,o,p,RN,F,H,I,J,N,S];refine ak rfl rfl j ?_;simp only[h1,RN,F,H,I,J,N,S];refine ak rfl rfl (l7 _) ?_;simp only[h2,RN,F,H,I,J,N,S];refine ak rfl rfl (l7 _) ?_;simp only[g,bI,dR,RN,F,H,I,J,N,S];exact⟨_,rfl,1,0,rfl,rfl⟩
 have L: -1000000<=B/\B<=1000000:=by simp only[aT,inR,aL,decide_eq_true_eq]at h2;omega
 have M: -1000000<=Cc/\Cc<=1000000:=by simp only[aT,inR,aL,decide_eq_true_eq]at g;omega
 have K:cB .i64 (Cc - B)=Cc - B:=aF (by omega);cases k:inR (Cc - B) 0 10
 ·have c:uU D t A B Cc=([],2):=by simp[uU,k]
  rw[c];refine gQ (aG mixed rfl fD ?_);simp only[dQ,dY,iM,j0,t0,u,q,t1,l1,s,t2,l2,U,getD_map,aI,m,o,p,RN,F,H,I,J,N,S];refine ak rfl rfl j ?_;simp only[h1,RN,F,H,I,J,N,S];refine ak rfl rfl (l7 _) ?_;simp only[h2,RN,F,H,I,J,N,S];refine ak rfl rfl (l7 _) ?_;simp only[g,K,RN,F,H,I,J,N,S];refine ak rfl rfl (Ah _ _ _) ?_;simp only[k,bI,dR,RN,F,H,I,J,N,S];exact⟨_,rfl,1,0,rfl,rfl⟩
 cases x:fZ t.op A with
 |none=>
  have c:uU D t A B Cc=([],7):=by simp[uU,h1,h2,g,k,x]
  rw[c];refine gQ (aG mixed rfl fD ?_);simp only[dQ,dY,iM,j0,t0,u,q,t1,l1,s,t2,l2,U,getD_map,aI,m,o,p,RN,F,H,I,J,N,S];refine ak rfl rfl j ?_;simp only[h1,RN,F,H,I,J,N,S];refine ak rfl rfl (l7 _) ?_;simp only[h2,RN,F,H,I,J,N,S];refine ak rfl rfl (l7 _) ?_;simp only[g,K,RN,F,H,I,J,N,S];refine ak rfl rfl (Ah _ _ _) ?_;simp only[k,cO,RN,F,H,I,J,N,S];refine adX ((fZ t.op A).map Fr.dv) (wL A) (Ih _ _) ?_;simp only[x,FW,be,bj,bu,av,ae,or_false,bI,dR,RN,F,H,I,J,N,S];exact⟨_,rfl,1,0,rfl,rfl⟩
 |some f=>
  have h:=afT t.pc B Cc A f (by omega) (by omega) M L;have z:=ZU t.pc B Cc A f;rw[dZ,bW]at h;have c:uU D t A B Cc=(IW (t.pc.changes B Cc A f).1,(t.pc.changes B Cc A f).2):=by simp[uU,h1,h2,g,k,x]
  rw[c];generalize W:t.pc.changes B Cc A f=r at*;obtain⟨l,e⟩:=r;simp only at h z⊢;refine gQ (aG mixed rfl fD ?_);simp only[dQ,dY,iM,j0,t0,u,q,t1,l1,s,t2,l2,U,getD_map,aI,m,o,p,RN,F,H,I,J,N,S];refine ak rfl rfl j ?_;simp only[h1,RN,F,H,I,J,N,S];refine ak rfl rfl (l7 _) ?_;simp only[h2,RN,F,H,I,J,N,S];refine ak rfl rfl (l7 _) ?_;simp only[g,K,RN,F,H,I,J,N,S];refine ak rfl rfl (Ah _ _ _) ?_;simp only[k,cO,RN,F,H,I,J,N,S];refine adX ((fZ t.op A).map Fr.dv) (wL A) (Ih _ _) ?_;simp only[x,FW,bL,a7,bv,bW,av,ae,or_false,RN,F,H,I,J,N,S];refine ak rfl rfl h ?_;simp only[U,RN,F,H,I,J,N,S];refine aH l.length (fun i (v:Nat)=>⟨[(12,pI e),(13, .tsl 1 v 0),(73, .d (.slice (e !=0) (l.map Chg.dv))),(74,pI l.length),(75,pI i)],
    ⟨[some ((nG f1 f2 e1 e2 D t).map .d),some [pI f.n,pI f.d]],[1,0],[some ⟨1,[],0,0⟩,some ⟨1,(IW (l.take i)).map ay,v,xC (IW (l.take i))⟩]⟩⟩)
   (fun _ _=>True) 0 0 (az _) (by rw[nG,cO];rfl) trivial (fun i v w _=> ?_) (fun v _=> ?_)
  ·obtain⟨O,P,Q⟩:=rng w (by omega)
   have G:IW (l.take (i+1))=IW (l.take i)++ [(l.getD i default).link,(l.getD i default).pr.a,(l.getD i default).pr.b]:=by
    rw[aS w];simp[IW,aos]
   have C:=agy (l.take i);have c:¬xC (IW (l.take i))=2:=Ip;simp only[O,P,w,getD_map,sW,aq,U,aah,c,av,ae,or_false,RN,F,H,I,J,N,S];refine⟨by rintro y (rfl|rfl|rfl)<;>rfl,by simp,by rw[C];simp only[ck];omega,?_⟩;simp only[Q,RN,F,H,I,J,N,S];refine jv 2 2 (v+1) w ?_ trivial (by simp) (by simp) rfl rfl;rw[G,Vl];simp[ay]
  ·simp only[aM,bI,dR,RN,F,H,I,J,N,S]
   rw[br];exact⟨_,rfl,1,v,rfl,rfl⟩
end
end Go.Tel
namespace Go.Tel
open Go.Am
def LZ (n:Int):List DV:=[dI n]
def acu (xs:List Int)(ex:Bool)(hl:xs.length<=1000000):
  Wp C 241 [] [.d (.aW [.slice ex (xs.map ay)])] (xs.map LZ) no no no (fun _=>True):=by
 rintro⟨bs,fz,ar⟩ b n R stop K KP B D r E _ G lK A e f;simp only at r;refine aG mixed rfl D8 ?_;simp only[uh,jq,U,RN,F,H,I,J,N,S];refine zu (fun m s=>∃(i:Nat) (g:Mem),m=xs.length - i/\i<=xs.length/\s=⟨[(0, .oP b),(5, .d (.slice ex (xs.map ay))),(6,pI xs.length),(7,pI i)],g⟩/\n<=g.boxes.length/\R ((xs.take i).map LZ) g)
  xs.length ⟨0,_,rfl,az _,rfl,r,A⟩ ?_
 rintro m s ⟨i,⟨v,w,u⟩,rfl,M,rfl,c,h⟩
 by_cases a:i<xs.length
 case neg=>
  have k:i=xs.length:=by omega
  subst k;simp only[aM,RN,F,H,I,J,N,S];rw[br]at h;exact f _ _ c h
 obtain⟨x,y,z⟩:=rng a hl;simp only[x,y,a,getD_map,aI,aq,U,RN,F,H,I,J,N,S];refine BI ?_;refine SY.mono (lK ((xs.take i).map LZ) (LZ (xs.getD i default)) ((xs.drop (i+1)).map LZ) _ (by
  conv=>lhs;rw[<-List.take_append_drop i xs,drop_cons a]
  simp) c h) ?_
 rintro p t ⟨l,L⟩;have o:=l.len;simp only at o c
 rcases L with⟨rfl,j⟩|⟨rfl,q⟩
 ·simp only[z,RN,F,H,I,J,N,S]
  refine⟨xs.length - (i+1),_,by omega, .inl rfl,i+1,t,rfl,by omega,rfl,by omega,?_⟩;rw[aS a,bt];exact j
 ·(try simp only[RN,F,H,I,J,N,S])
  exact e _ _ q
def C9 (ex:Bool)(xs:List Int):DV:= .func (.func 241) [] [.aW [.slice ex (xs.map ay)]]
def af2 (xs:List Int)(ex:Bool)(hl:xs.length<=1000000){bs:List (Option (List PV))}{fz:List Nat}{ar:List (Option Arr)}(w:FzB ⟨bs,fz,ar⟩){KP:DV->Mem->Prop}:
  SC C 288 [.d (.slice true []), .d (C9 ex xs)] ⟨bs,fz,ar⟩ (fun p M'=>slN 1 true p (xs.map ay) M'.aB/\Frm ⟨bs,fz,ar⟩ M'/\(∀k,kOf p=some k->ar.length<=k)/\(xs=[]->p= .d (.slice true []))) KP:=by
 have T:bs.length∉fz:=fun e=>aw _ (w _ e)
 refine aG mixed rfl BR ?_;simp only[rX,aJ,C9,aQ,aV,Y,RN,F,H,I,J,N,S];refine rD (acu xs ex hl) (fun _ h=>h) rfl (by kernel_rfl) (fun i t=>by have:=w i t;simp at this⊢;omega) (fun x u=>by obtain⟨i,_,rfl⟩:=bo.1 u;rfl) (fun _ h=>h.elim) (fun _ _=>trivial)
  (fun q v=>∃l r c,xs=l++r/\q=l.map LZ/\v.boxes[bs.length]?=some (some [c])/\bs.length∉v.fz/\slN 1 true c (l.map ay) v.aB/\Frm ⟨bs,fz,ar⟩ v/\(∀k,kOf c=some k->ar.length<=k)/\(l=[]->c= .d (.slice true []))) ?_ ?_ ?_ ?_
 ·rintro q v M2 z ⟨l,r,c,f,s,m,B,D,a,E,K⟩
  simp only[Y,am,ao]at z;exact⟨l,r,c,f,s,(z.box _ (by omega) id).trans m,fun e=>B ((z.fz _ (by omega) id).1 e),by rw[z.aB];exact D,a.moved z (by simp),E,K⟩
 ·exact⟨[],xs,_,rfl,rfl,by simp only;rw[aQ rfl];rfl,T, .inl ⟨rfl,rfl⟩,Frm.new (xf:=[]) (by simp),(fun k hk=>by cases hk),fun _=>rfl⟩
 ·rintro L cells q x ab ⟨n,O,M⟩ u o g A ⟨l,r,c,f,s,m,B,D,a,E,K⟩ M0
  simp only[Y,am,ao]at o g A m B⊢;obtain⟨p,G,rfl⟩:∃p G,r=p::G:=by
   cases r with
   |nil=>
    rw[f,s]at u;have:=congrArg bq u;simp at this
   |cons p G=>exact⟨p,G,rfl⟩
  have V:x=LZ p:=by
   rw[f,s,bt,aE]at u;have:=bw u;exact(List.cons.inj this).1.symm
  subst V;have b:bs.length<n.length:=by omega
  have Z:l.length<=1000000:=by have:=congrArg bq f;simp at this;omega
  simp only[LZ,bO,bX,aE,bl,m,b,iC,DV.strip,RN,F,H,I,J,N,S];refine RG D (by decide) (by intro y hy;simp only[ax]at hy;subst hy;rfl) (by simp) (by simp;omega) fun k ver st ac a1 a2 a3 W a5 a6=> ?_
  have U:=a6 rfl;subst U;simp only[m,b,B,bM,dB,wz,RN,F,H,I,J,N,S];have Q:ar.length<=k:=by
   rcases a1 with a1|a1
   ·exact E k a1
   ·have:=a.bH;simp only at this;omega
  refine⟨by rw[ai (by omega)];exact g,A,Kept.ND (by omega) id W (fun _ h=>h.elim),l++ [p],G, .tsl k ver 0,by rw[f];simp,by rw[s];simp[LZ],by simp[b], .inr ⟨k,ver,1,rfl,by rw[a2];simp[ay],by decide,fun _=> .inl rfl⟩,?_,(fun k' P=>by cases P;exact Q),fun e=>by simp at e⟩;exact
  {len:=by have:=a.len;simpa using this
   bH:=a8 a.bH W
   box:=fun i t=>by
    have:=a.box i t;simp only at t this⊢;rw[ai (by omega)];exact this
   fz:=a.fz
   row:=fun j X=>by
    have:=a.row j X;have R:=a.bH;simp only at X this R⊢;rw[a3 j (by omega) (by omega)];exact this
   fzb:=fun e i t=>by have:=a.fzb e i t;simpa using this}
 ·rintro⟨n,O,M⟩ ⟨l,r,c,f,s,m,B,D,a,E,K⟩ o
  simp only[Y,am,ao]at o m;have hr:r=[]:=by
   have:=congrArg bq s;rw[f]at this;simp at this;exact this
  subst hr;rw[bp]at f;subst f;have b:bs.length<n.length:=by omega
  simp only[m,b,RN,F,H,I,J,N,S];exact⟨D,a,E,K⟩
end Go.Tel
namespace Go.Proofs
open Go.Shelf
end Go.Proofs
namespace Go.Tel
open Go.Am
def alH {k ver:Nat}{zs:List Int}{bs:List (Option (List PV))}{fz:List Nat}{ar:List (Option Arr)}{K:PV->Mem->Prop}{KP:DV->Mem->Prop}
  (h:ar[k]?=some (some ⟨1,zs.map (DV.int .i64),ver,1⟩))(b:zs≠[])(hl:zs.length<4611686018427387904)
  (a:K (.d (.tup [])) ⟨bs,fz,ar.set k (some ⟨1,(zs.mergeSort fun x y=>decide (x<=y)).map (DV.int .i64),ver,1⟩)⟩):SC Go.Tel.C 240 [.tsl k ver 0] ⟨bs,fz,ar⟩ K KP:=
 anH (C:=Go.Tel.C) Go.Proofs.Tryz.laysSort h b hl a
end Go.Tel
namespace Go.Tel
open Go.Am
def aio (ex:Bool):Pure C 240 [.slice ex []] (.d (.tup [])) []:=by
 refine qQ fun X w g l j i=> ?_
 cases i with|cons h1 t1=>
 cases t1;have b:∀a cap,Calls C.P 240 #[.slice a 0 cap] w fun e c=>∃v,e= .returned v/\Later w c/\bP c X v (.tup []):=by
  intro a cap;refine(Go.Proofs.Any.slices_Sort_int_none Go.Proofs.Tryz.laysSort a cap w).mono ?_;rintro e c ⟨rfl,rfl⟩;exact⟨_,rfl,Later.refl _, .tup .nil⟩
 cases h1 with
 |empty j=>exact b _ _
 |slice m o f p n k h=>
  simp only[ao]at f;subst f;exact b _ _
def Sr (xs:List Int)(ex:Bool)(hl:xs.length<=1000000){bs:List (Option (List PV))}{fz:List Nat}{ar:List (Option Arr)}(a:FzB ⟨bs,fz,ar⟩){KP:DV->Mem->Prop}:
  SC C 239 [.d (C9 ex xs)] ⟨bs,fz,ar⟩ (fun p M'=>slN 1 true p (xs.map ay) M'.aB/\Frm ⟨bs,fz,ar⟩ M'/\(∀k,kOf p=some k->ar.length<=k)/\(xs=[]->p= .d (.slice true []))) KP:=by
 refine aG mixed rfl FC ?_;simp only[vF,aK,RN,F,H,I,J,N,S];refine SC.jU (SC.mono (af2 xs ex hl a (KP:=fun _ _=>False)) ?_) (fun _ _ h=>h.elim);rintro p ⟨c,e,b⟩ h;(try simp only[RN,F,H,I,J,N,S]);exact h
def QG (xs:List Int):List Int:=xs.mergeSort fun x y=>decide (x<=y)
def ahW:QG []=[]:=by simp[QG]
def alc {xs:List Int}(h:xs≠[]):QG xs≠[]:=fun e=>h (by
 have:=congrArg bq e;simp only[QG,List.length_mergeSort,ao]at this;exact List.eq_nil_of_length_eq_zero this)
def QI {α:Type}{l:List α}(h:l≠[]):xC l=1:=by cases l with|nil=>exact absurd rfl h|cons _ _=>rfl
def ald (xs:List Int)(ex:Bool)(hl:xs.length<=1000000)(hx:xs≠[]):Pure C 164 [C9 ex xs] (.tsl 0 0 0) [⟨1,(QG xs).map ay,0,1⟩]:=by
 refine Qv (aG mixed rfl wP ?_);simp only[nX,aK,RN,F,H,I,J,N,S];refine SC.jU (SC.mono (Sr xs ex hl (bs:=[]) (fz:=[]) (ar:=[]) (by intro i f;simp at f) (KP:=fun _ _=>False)) ?_) (fun _ _ h=>h.elim);rintro p ⟨d,e,c⟩ ⟨h1,h2,g,j⟩;obtain⟨k,ver,st,rfl,b,_,a⟩:=Io h1 (by simpa using hx);have a:=a rfl;subst a;simp only at b;(try simp only[RN,F,H,I,J,N,S]);refine alH (zs:=xs) b hx (by omega) ?_;(try simp only[RN,F,H,I,J,N,S]);exact⟨k,ver,rfl,by simp only;rw[bk (V.1 b).1];rfl⟩
def aeK (ex:Bool):Pure C 164 [C9 ex []] (.d (.slice true [])) []:=by
 refine bU (aG mixed rfl wP ?_);simp only[nX,aK,RN,F,H,I,J,N,S];refine SC.jU (SC.mono (Sr [] ex (by simp) (bs:=[]) (fz:=[]) (ar:=[]) (by intro i f;simp at f) (KP:=fun _ _=>False)) ?_) (fun _ _ h=>h.elim);rintro p ⟨b,c,a⟩ ⟨h1,h2,j,e⟩;have g:=e rfl;subst g;(try simp only[RN,F,H,I,J,N,S]);refine afF (aio false) rfl (ds:=[.slice true []]) rfl rfl ?_;(try simp only[RN,F,H,I,J,N,S])
 rfl
def alu (xs:List Int)(ex:Bool):Pure C 165 [.slice ex (xs.map ay)] (.d (C9 ex xs)) []:=by
 refine ah mixed rfl Gl ?_;simp only[wX,aK,ae,RN,F,H,I,J,N,S]
 rfl
section
variable (f1 f2 e1 e2:Bool){D:Dk}{t:Sp}(ns:List Int)
def aly (e:zK D.su 24 t):Ans 76 [xG f1 f2 e1 e2 D t,sF (ns.map ay)] (QG t.eH) 0:=by
 have d:=e.st;have c:=alu t.eH false
 by_cases a:t.eH=[]
 ·have b:=aeK false
  rw[a]at c⊢;refine zY ahW (ah mixed rfl nP ?_);simp only[jP,dY,iM,cO,a,ae,RN,F,H,I,J,N,S];refine ak rfl rfl c ?_;(try simp only[RN,F,H,I,J,N,S]);refine yH rfl rfl b (by simp) ?_;simp only[PV.shift,kC,RN,F,H,I,J,N,S]
 ·have b:=ald t.eH false (by omega) a
  refine gQ (aG mixed rfl nP ?_);simp only[jP,dY,iM,cO,ae,RN,F,H,I,J,N,S];refine ak rfl rfl c ?_;(try simp only[RN,F,H,I,J,N,S]);refine yH rfl rfl b (by simp) ?_;simp only[PV.shift,kC,bI,dR,RN,F,H,I,J,N,S];exact⟨_,rfl,0,0,rfl,by rw[QI (alc a)];rfl⟩
def NQ {D:Dk}(hl:D.es.length=D.st.length)(ab:D.es.length<=1000)(hf:∀x∈D.es,jc x.kind<=x.ns.length):
  Wp C 163 [.d (.aW (JG e1 e2 D))] [] (dD D 0) no no no (fun _=>True):=by
 rintro⟨bs,fz,ar⟩ b n R stop K KP ac ae hn y ai P lK h0 u w;simp only at hn y;refine aG mixed rfl oQ ?_;simp only[ku,jq,JG,U,RN,F,H,I,J,N,S];refine zu (fun m s=>∃(i:Nat) (f:List (List DV)) (B:Mem),m=D.es.length - i/\i<=D.es.length/\s=⟨[(0, .d (.aW (JG e1 e2 D))),(1, .oP b),(9, .d (.slice e1 (D.es.map En.dv))),(10,pI D.es.length),(11,pI i)],B⟩/\n<=B.boxes.length/\FzB B/\dD D 0=f++dD D i/\R f B)
  D.es.length ⟨0,[],_,rfl,az _,rfl,hn,y,rfl,h0⟩ ?_
 rintro m s ⟨i,f,⟨g,q,v⟩,rfl,hi,rfl,h,l,c,Z⟩;simp only at h;have Q:g.length∉q:=fun e=>aw _ (l _ e)
 by_cases t:i<D.es.length
 case neg=>
  have M:i=D.es.length:=by omega
  subst M;simp only[aM,RN,F,H,I,J,N,S];refine w _ _ h ?_;rw[c];have:dD D D.es.length=[]:=by simp[dD,kJ]
  rw[this,bp];exact Z
 have A:(i:Int)<(D.es.length:Int):=by omega
 have o:i<D.st.length:=by omega
 have j0:(0:Int)<=(i:Int):=by omega
 have X:cB .i64 ((i:Int)+1)=((i+1:Nat):Int):=by rw[aF (by omega)];omega
 have a:=Ho hl t;obtain⟨x,V⟩:∃x,x=D.es.getD i default:=⟨_,rfl⟩
 have W:x∈D.es:=by rw[V];exact getD_mem t
 have aaq:=SB x (hf x W);rw[<-V]at a;rw[dM]at aaq;have r:R f ⟨g++ [some [pI x.kind, .d (sF (x.ns.map ay))]],g.length::q,v⟩:=
  P f _ _ (Moved.ext (xf:=[g.length]) (xb:=[_]) h (by simpa using h)) Z
 have adA:FzB ⟨g++ [some [pI x.kind, .d (sF (x.ns.map ay))]],g.length::q,v⟩:=by
  intro j hj;simp only[av]at hj;simp only[Y,am,ao]
  rcases hj with rfl|hj
  ·omega
  ·have:=l j hj;simp only at this;omega
 simp only[A,t,j0,aq,U,getD_map,<-V,dM,Q,bD,aQ,aV,Y,RN,F,H,I,J,N,S]
 by_cases G:x.kind=6
 ·have E:(x.kind !=6)=false:=by simp[G]
  rw[if_neg (by simp[G])]at a;simp only[E,X,RN,F,H,I,J,N,S];refine⟨D.es.length - (i+1),_,by omega, .inl rfl,i+1,f,_,rfl,by omega,rfl,by simp;omega,adA,by rw[c,a],r⟩
 have E:(x.kind !=6)=true:=by simp[G]
 cases k:D.st.getD i default
 case true=>
  rw[if_neg (fun e=>by rw[k]at e;cases e.2)]at a;simp only[JG,E,o,j0,aq,U,getD_map,kF,k,X,RN,F,H,I,J,N,S];refine⟨D.es.length - (i+1),_,by omega, .inl rfl,i+1,f,_,rfl,by omega,rfl,by simp;omega,adA,by rw[c,a],r⟩
 rw[if_pos ⟨G,k⟩]at a;simp only[JG,E,o,j0,aq,U,getD_map,kF,k,RN,F,H,I,J,N,S];refine ak rfl rfl aaq ?_;(try simp only[RN,F,H,I,J,N,S]);refine BI ?_;refine SY.mono (lK f (oN (i,x.deed)) (dD D (i+1)) _ (by rw[c,a]) (by simp;omega) r) ?_;rintro p M3 ⟨z,hp⟩
 rcases hp with⟨rfl,L⟩|⟨rfl,T⟩
 ·simp only[X,RN,F,H,I,J,N,S]
  have O:=z.len;simp only[Y,am,ao]at O;refine⟨D.es.length - (i+1),_,by omega, .inl rfl,i+1,_,M3,rfl,by omega,rfl,by omega,z.fzb adA,by rw[c,a,bd];rfl,L⟩
 ·(try simp only[RN,F,H,I,J,N,S])
  exact u _ _ T
def aeO (b:D.Ok):Ans 86 [xG f1 f2 e1 e2 D t,sF (ns.map ay)] (D.stands.map fun p=>(p.1:Int)) 0:=by
 have ab:D.stands.length<=24:=a8 (Az _ _ _) b.few
 by_cases v:D.stands=[]
 ·refine zY (by rw[v];rfl) (bU (aG mixed rfl l9 ?_))
  simp only[jy,dY,iM,ae,RN,F,H,I,J,N,S];refine rD (NQ e1 e2 b.len (by have:=b.few;omega) (fun x a=>Ae (b.formed x a))) (fun _ h=>h) rfl (by kernel_rfl) (fun i B=>by simp at B;simp[B]) (fun x a=>by simp only[dD,bo]at a;obtain⟨p,_,rfl⟩:=a;rfl) (fun _ h=>h.elim) (fun _ _=>trivial)
   (fun f q=>q.boxes[1]?=some (some [.d (.slice true [])])) ?_ rfl ?_ ?_
  ·intro f q U C h
   exact(C.box 1 (by simp) id).trans h
  ·intro L cells f x G q a
   rw[dD,aR,aR,<-Dk.stands,v]at a;simp at a
  ·rintro⟨n,A,z⟩ h o
   simp only at h;simp only[h,RN,F,H,I,J,N,S]
   rfl
 ·refine gQ (aG mixed rfl l9 ?_)
  simp only[jy,dY,iM,ae,RN,F,H,I,J,N,S];refine rD (NQ e1 e2 b.len (by have:=b.few;omega) (fun x a=>Ae (b.formed x a))) (fun _ h=>h) rfl (by kernel_rfl) (fun i B=>by simp at B;simp[B]) (fun x a=>by simp only[dD,bo]at a;obtain⟨p,_,rfl⟩:=a;rfl) (fun _ h=>h.elim) (fun _ _=>trivial)
   (fun f q=>∃l r c,D.stands=l++r/\f=l.map oN/\q.boxes[1]?=some (some [c])/\1∉q.fz/\slN 1 true c (l.map fun p=>dI (p.1:Int)) q.aB) ?_ ⟨[],D.stands,_,rfl,rfl,rfl,by simp, .inl ⟨rfl,rfl⟩⟩ ?_ ?_
  ·rintro f q U C ⟨l,r,c,g,w,u,K,M⟩
   exact⟨l,r,c,g,w,(C.box 1 (by simp) id).trans u,fun e=>K ((C.fz 1 (by simp) id).1 e),by rw[C.aB];exact M⟩
  ·rintro L cells f x G ⟨n,A,z⟩ a o s E ⟨l,r,c,g,w,u,K,M⟩ M0
   simp only[am,ao]at o s E u K⊢;obtain⟨p,O,rfl⟩:∃p O,r=p::O:=by
    cases r with
    |nil=>
     rw[dD,aR,aR,<-Dk.stands,g,w]at a;have:=congrArg bq a;simp at this
    |cons p O=>exact⟨p,O,rfl⟩
   have P:x=oN p:=by
    rw[dD,aR,aR,<-Dk.stands,g,w,bt,aE]at a;exact(List.cons.inj (bw a)).1.symm
   subst P;have j:1<n.length:=by omega
   have R:l.length<=24:=by have:=congrArg bq g;simp at this;omega
   simp only[oN,bO,bX,aE,bl,u,j,iC,DV.strip,RN,F,H,I,J,N,S];refine RG M (by decide) (by intro y T;simp only[ax]at T;subst T;rfl) (by simp) (by simp;omega) fun k ver st Y a1 V a3 W a5 X=> ?_
   have m:=X rfl;subst m;simp only[u,j,K,bM,dB,wz,RN,F,H,I,J,N,S];exact⟨by rw[ai (by omega)];exact s,E,Kept.ND (by omega) id W (fun _ h=>h.elim),l++ [p],O, .tsl k ver 0,by rw[g];simp,by rw[w];simp[oN],by simp[j], .inr ⟨k,ver,1,rfl,by rw[V];simp,by decide,fun _=> .inl rfl⟩⟩
  ·rintro⟨n,A,z⟩ ⟨l,r,c,g,w,u,K,M⟩ o
   simp only[am,ao]at o u;have Z:r=[]:=by
    have:=congrArg bq w;rw[dD,aR,aR,<-Dk.stands,g]at this;simp at this;exact this
   subst Z;rw[bp]at g;have aqD:l≠[]:=by rw[<-g];exact v
   obtain⟨k,ver,st,rfl,Q,_,m⟩:=Io M (by simpa using aqD);have m:=m rfl;subst m;simp only at Q;have j:1<n.length:=by omega
   simp only[u,j,bI,dR,RN,F,H,I,J,N,S];refine⟨_,rfl,k,ver,rfl,?_⟩;rw[QI (by rw[g];simpa using aqD)];simp only[Q,g,List.map_map]
   rfl
end
end Go.Tel
namespace Go.Am
section
variable {C:Ctx}
def XI (C:Ctx)(M:Mem)(args qs:List PV)(ds:List DV):Prop:=∀X w E a,Sim C X w M E->aP w (away X M E) M E a args->aX w (away X (M.frz qs) E) a ds
variable{M:Mem}
def acE {a b:PV}{e f y:DV}(h:dF M [a,b, .d y]=some [e,f,y]):XI C M [.agg [a,b], .d y] [a,b, .d y] [.agg [e,f],y]:=by
 intro X w E g m k;cases k with|cons h1 t1=>
 cases t1 with|cons h2 t2=>
 cases t2;cases h1 with|agg hh=>
 rename_i z
 generalize c:z.toList=l at hh;cases hh with|cons i s=>
 cases s with|cons j t=>
 cases t;have hd:=vI (ps:=[a,b, .d y]) m (.cons i (.cons j (.cons h2 .nil))) h (fun q n=>n);cases hd with|cons o u=>
 cases u with|cons p v=>
 cases v with|cons r x=>
 cases x;exact .cons (.agg (by rw[c];exact .cons o (.cons p .nil))) (.cons r .nil)
def ahP {f:FuncId}{args qs:List PV}{ds ds':List DV}{r:PV}{k:List Arr}(h:Pure C f ds' r k)(u:aaj r=true)(d:k.all lJ=true){K:PV->Mem->Prop}{KP:DV->Mem->Prop}
  (m:XI C M args qs ds)(n:ds.map DV.strip=ds')(s:K (r.shift M.aB.length) {M with aB:=M.aB++k.map some}):SC C f args M K KP:=by
 subst n;intro X w E a c q;have l:=ng c qs;have hd:=(m X w E a c q).strip;refine(h (away X (M.frz qs) E) w a c.glob (fun b i=> .inl (c.iK b i)) (fun b i=>l.yj i) hd).mono fun e F n=> ?_
 obtain⟨v,D,rfl,g,p,x⟩:=n;have o:∀A∈k,A.st≠2:=fun A t e=>by
  have j:=b7.1 d A t;simp only[lJ,aL]at j
  rcases Bool.or_eq_true_iff.1 j.1 with h|h
  ·rw[e]at h;simp at h
  ·rw[e]at h;simp at h
 obtain⟨y,z,B⟩:=Hg c (Il c g p d) p o;exact⟨_,_,_,s,y,z,OQ c.bH (fun b i=>(B b).1 i) (Xw g d u x)⟩
end
end Go.Am
namespace Go.Tel
open Go.Am
variable{f:FuncId}{args qs:List PV}{M:Mem}{ds ds':List DV}{K:PV->Mem->Prop}{KP:DV->Mem->Prop}
def anE {n:Int}(h:Pure C f ds' (.d (yR n)) [])(k:XI C M args qs ds)(l:ds.map DV.strip=ds')(p:K (.d (yR n)) M):SC C f args M K KP:=by
 subst l;intro X w E a c o;have i:=ng c qs;have hd:=(k X w E a c o).strip;refine(h (away X (M.frz qs) E) w a c.glob (fun b j=> .inl (c.iK b j)) (fun b j=>i.yj j) hd).mono fun e x l=> ?_
 obtain⟨v,t,rfl,g,m,q⟩:=l;obtain⟨r,s,u⟩:=Hg c (Il c g m rfl) m (by simp);exact⟨_,_,_,(by simpa using p),r,s, .d (afp q.toD)⟩
def aol {l:List Int}{e:Int}(h:Ans f ds' l e)(a:XI C M args qs ds)(i:ds.map DV.strip=ds')
  (g:∀p c xa,(p= .tup [c,pI e]\/(p= .d (.tup [.slice true [],dI e])/\c= .d (.slice true [])))->slN 1 true c (l.map ay) (M.aB++xa)->(∀k,kOf c=some k->M.aB.length<=k)->K p ⟨M.boxes,M.fz,M.aB++xa⟩):SC C f args M K KP:=by
 rcases h with h|⟨rfl,h⟩
 ·refine ahP h rfl ?_ a i ?_
  ·simp only[List.all_cons,List.all_nil,Bool.and_true];exact Lp l
  ·refine g _ (.tsl M.aB.length 0 0) [some ⟨1,l.map ay,0,xC l⟩] (.inl ?_) (.inr ⟨_,0,xC l,rfl,by simp,Ip,fun _=> ?_⟩) (fun k b=>by cases b;exact bc _)
   ·simp[PV.shift,kC,Vh]
   ·cases l with
    |nil=>exact .inr rfl
    |cons x l=>exact .inl rfl
 ·refine anE h a i ?_
  have:=g (.d (yR e)) (.d (.slice true [])) [] (.inr ⟨rfl,rfl⟩) (.inl ⟨rfl,rfl⟩) (fun k b=>by cases b)
  simpa using this
structure Qn where
 kind:Int
 ns:List Int
 deriving DecidableEq,Inhabited
def Qn.dv (x:Qn):DV:= .agg [dI x.kind,sF (x.ns.map ay)]
def afa {x:Qn}:x.dv= .agg [dI x.kind,sF (x.ns.map ay)]:=by rw[Qn.dv]
def Qn.n (x:Qn)(i:Nat):Int:=x.ns.getD i default
def amL:List (ByteArray×Nat):=[(⟨#[104,97,110,100,115]⟩,0),(⟨#[115,116,111,99,107]⟩,0),(⟨#[111,112,101,110]⟩,0),(⟨#[112,114,105,99,101]⟩,1),(⟨#[110,101,101,100]⟩,3),(⟨#[111,102,102]⟩,2),(⟨#[119,114,111,110,103]⟩,0),(⟨#[119,111,114,107,115]⟩,1),(⟨#[100,97,116,101]⟩,1),(⟨#[99,117,116,115]⟩,1),(⟨#[99,111,105,110,115]⟩,0),(⟨#[115,116,97,110,100,115]⟩,0)]
def fwQ (k:Int):ByteArray:=(amL.getD (k - 1).toNat default).1
def TK (k:Int):Nat:=(amL.getD (k - 1).toNat default).2
def XR {k:Int}(h:1<=k/\k<=12):k=1\/k=2\/k=3\/k=4\/k=5\/k=6\/k=7\/k=8\/k=9\/k=10\/k=11\/k=12:=by omega
def aqa {k:Int}(h:1<=k/\k<=12):air (iZ (cA 2 (cz ((k - 1).toNat*2) (cq PV.d (VI amL))))) (cA 2 (cz ((k - 1).toNat*2) (cq PV.d (VI amL))))= .d (.agg [.str (fwQ k),dI (TK k)])/\(k - 1).toNat*2+2<=(cq PV.d (VI amL)).length/\cB .i64 (k - 1)=k - 1:=by
 rcases XR h with rfl|rfl|rfl|rfl|rfl|rfl|rfl|rfl|rfl|rfl|rfl|rfl<;>exact⟨rfl,by decide,by decide⟩
def afd:VI amL=[.str ⟨#[104,97,110,100,115]⟩,dI 0, .str ⟨#[115,116,111,99,107]⟩,dI 0, .str ⟨#[111,112,101,110]⟩,dI 0, .str ⟨#[112,114,105,99,101]⟩,dI 1, .str ⟨#[110,101,101,100]⟩,dI 3, .str ⟨#[111,102,102]⟩,dI 2, .str ⟨#[119,114,111,110,103]⟩,dI 0, .str ⟨#[119,111,114,107,115]⟩,dI 1, .str ⟨#[100,97,116,101]⟩,dI 1, .str ⟨#[99,117,116,115]⟩,dI 1, .str ⟨#[99,111,105,110,115]⟩,dI 0, .str ⟨#[115,116,97,110,100,115]⟩,dI 0]:=rfl
def aiy:Pure C 71 [] (.d (.agg (VI amL))) []:=by
 refine ah mixed rfl J5 ?_;simp only[y9,akQ,afd,H9,RN,F,H,I,J,N,S]
def aon (k:Int):FuncId:=([75,76,77,78,79,80,81,82,83,84,85,86]:List FuncId).getD (k - 1).toNat default
def Dk.answer (D:Dk)(t:Sp)(q:Qn):List Int×Int:=
 if q.kind=1 then(ajr t.pc,0)else if q.kind=2 then(QG t.eH,0)else if q.kind=3 then(qo t.op t.pc.hands.length,0)
 else if q.kind=4 then(if inR (q.n 0) 0 (D.su.pc.hands.length - 1)then[Ec D.su t (q.n 0).toNat]else[],if inR (q.n 0) 0 (D.su.pc.hands.length - 1)then 0 else 2)
 else if q.kind=5 then uU D t (q.n 0) (q.n 1) (q.n 2)
 else if q.kind=6 then(if inR (q.n 0) 0 (D.su.pc.hands.length - 1)&&inR (q.n 1) 1 D.su.days.length then[(rG t.pc (q.n 0) (t.tg.getD (q.n 0).toNat default) (t.turns (q.n 1))).1]else[],
  if inR (q.n 0) 0 (D.su.pc.hands.length - 1)&&inR (q.n 1) 1 D.su.days.length then(rG t.pc (q.n 0) (t.tg.getD (q.n 0).toNat default) (t.turns (q.n 1))).2 else 2)
 else if q.kind=7 then([vW D.su t D.su.days.length],0)
 else if q.kind=8 then(if inR (q.n 0) 1 D.su.days.length then(match vK D.EF ((D.su.days.length:Int)+1 - q.n 0).toNat (q.n 0)with|some d=>[d]|none=>[])else[],
  if inR (q.n 0) 1 D.su.days.length then(match vK D.EF ((D.su.days.length:Int)+1 - q.n 0).toNat (q.n 0)with|some _=>0|none=>5)else 2)
 else if q.kind=9 then(if inR (q.n 0) 1 D.su.days.length then[(SA D.su.cal D.su.year.toNat (D.su.first+(q.n 0 - 1))).m,(SA D.su.cal D.su.year.toNat (D.su.first+(q.n 0 - 1))).d]else[],if inR (q.n 0) 1 D.su.days.length then 0 else 2)
 else if q.kind=10 then([(D.su.dvd.cuts (q.n 0)).1.circle,(D.su.dvd.cuts (q.n 0)).1.turns,(D.su.dvd.cuts (q.n 0)).1.holes],(D.su.dvd.cuts (q.n 0)).2)
 else if q.kind=11 then([t.kE],0)
 else(D.stands.map fun p=>(p.1:Int),0)
def aiu (f1 f2 e1 e2:Bool){D:Dk}{t:Sp}(a:D.Ok)(c:zK D.su 24 t)(q:Qn)(hk:1<=q.kind/\q.kind<=12)(b:q.ns.length=TK q.kind):
  Ans (aon q.kind) [xG f1 f2 e1 e2 D t,sF (q.ns.map ay)] (D.answer t q).1 (D.answer t q).2:=by
 obtain⟨k,ns⟩:=q;simp only at hk b⊢
 rcases XR hk with rfl|rfl|rfl|rfl|rfl|rfl|rfl|rfl|rfl|rfl|rfl|rfl
 ·exact amq _ _ _ _ _ c
 ·exact aly _ _ _ _ _ c
 ·exact aki _ _ _ _ _ c
 ·exact aot _ _ _ _ _ a c b
 ·exact apI _ _ _ _ _ a c b
 ·exact aq6 _ _ _ _ _ a c b
 ·exact anX _ _ _ _ _ a c
 ·exact anU _ _ _ _ _ a b
 ·exact aow _ _ _ _ _ a b
 ·exact aou _ _ _ _ _ a b
 ·exact apO _ _ _ _ _
 ·exact aeO _ _ _ _ _ a
end Go.Tel
namespace Go.Tel
open Go.Am
def Dk.ask (D:Dk)(q:Qn):List Int×Int:=
 if inR q.kind 1 12=false then([],2)else if q.ns.length≠TK q.kind then([],2)else
  match D.state (-1)with
  |none=>([],7)
  |some t=>if(D.answer t q).2=0 then D.answer t q else([],(D.answer t q).2)
variable{M:Mem}
def gy.same {s:Su}{a b mb:Nat}{cst cse:PV}{t:Sp}{M':Mem}(h:gy s a b mb cst cse t M)(hb:M'.boxes[b]?=M.boxes[b]?)(g:M'.boxes[mb]?=M.boxes[mb]?)(c:M'.aB=M.aB)(d:b∉M'.fz)(e:mb∉M'.fz)(f:FzB M'):gy s a b mb cst cse t M':=
 {box:=hb.trans h.box
  map:=g.trans h.map
  r0:=by rw[c];exact h.r0
  r1:=by rw[c];exact h.r1
  r2:=by rw[c];exact h.r2
  r3:=by rw[c];exact h.r3
  r4:=by rw[c];exact h.r4
  r5:=by rw[c];exact h.r5
  stk:=by rw[c];exact h.stk
  set:=by rw[c];exact h.set
  kst:=h.kst,kse:=h.kse,dif:=h.dif,nb:=d,nm:=e,bm:=h.bm,fzb:=f}
def Frm.KG {a:List (Option (List PV))}{b:List Nat}{ar':List (Option Arr)}{y:Option (List PV)}{i:Nat}(h:Frm M ⟨a,b,ar'⟩)(hi:M.boxes.length<=i):Frm M ⟨a.set i y,b,ar'⟩:=
 {len:=by have:=h.len;simp only[aD]at this⊢;omega
  bH:=h.bH
  box:=fun j c=>by
   have h2:=h.box j c;simp only at h2⊢;rw[ai (by omega)];exact h2
  fz:=h.fz
  row:=h.row
  fzb:=fun e j c=>by have:=h.fzb e j c;simp only[aD]at this⊢;exact this}
variable{D:Dk}{d:Nat}
def alN {ce cs:PV}(h:oC D d ce cs M)(n:D.Ok){pb ab:Nat}(o:M.boxes[pb]?=some (some [.ptr d 0]))(m:M.boxes[ab]?=some (some [.d .nilPtr, .ptr d 0]))(j:ab∉M.fz):
  SC C 73 [.ptr pb 0, .ptr ab 0] M
   (fun _ M'=>∃t b mb a cst cse c f g,D.state (-1)=some t/\gy D.su a b mb cst cse t ⟨c,f,g⟩/\Frm M ⟨c,f,g⟩/\M.boxes.length<=b/\M.boxes.length<=mb/\M'=⟨c.set ab (some [.ptr b 0, .ptr d 0]),f,g⟩)
   (fun q M'=>D.state (-1)=none/\JA q/\Frm M M'):=by
 have x:=h;obtain⟨bs,fz,ar⟩:=M;simp only at o m j;have p:pb<bs.length:=(V.1 o).1;have k:ab<bs.length:=(V.1 m).1;refine aG mixed rfl AX ?_;simp only[qw,jq,o,p,RN,F,H,I,J,N,S];refine SC.mono (N9 x n (-1)) ?_;rintro v ⟨c,f,g⟩ ⟨t,b,mb,a,cst,cse,rfl,r,s,l,u,w,y⟩;have i:c[ab]?=some (some [.d .nilPtr, .ptr d 0]):=(l.box ab k).trans m;have aqo:ab<c.length:=(V.1 i).1;have arA:ab∉f:=fun e=>j ((l.fz ab k).1 e)
 simp only[i,aqo,arA,mD,wu,RN,F,H,I,J,N,S];exact⟨t,b,mb,a,cst,cse,c,f,g,r,s,l,u,w,rfl⟩
def aoo {k:Int}(h:1<=k/\k<=12):(cq PV.d [DV.func (.func 75) [] [], .func (.func 76) [] [], .func (.func 77) [] [], .func (.func 78) [] [], .func (.func 79) [] [], .func (.func 80) [] [], .func (.func 81) [] [], .func (.func 82) [] [], .func (.func 83) [] [], .func (.func 84) [] [], .func (.func 85) [] [], .func (.func 86) [] []]).getD (k - 1).toNat .dead= .d (.func (.func (aon k)) [] [])/\callable C.P (aon k)=true:=by
 rcases XR h with rfl|rfl|rfl|rfl|rfl|rfl|rfl|rfl|rfl|rfl|rfl|rfl<;>exact⟨rfl,by kernel_rfl⟩
def aii {ce cs:PV}(h:oC D d ce cs M)(ae:D.Ok)(q:Qn){KP:DV->Mem->Prop}:
  SC C 21 [.ptr d 0, .d q.dv] M (fun p M'=>∃c,(p= .tup [c,pI ((D.ask q).2)]\/(p= .d (.tup [.slice true [],dI (D.ask q).2])/\c= .d (.slice true [])))/\slN 1 true c ((D.ask q).1.map ay) M'.aB/\(∀k,kOf c=some k->M.aB.length<=k)/\Frm M M') KP:=by
 obtain⟨bs,fz,ar⟩:=M;have o:=h.box;rw[iV]at o;simp only at o;have bp:d<bs.length:=(V.1 o).1;have FX:∀i∈fz,i<bs.length:=h.fzb
 have aR:bs.length∉fz:=fun e=>aw _ (FX _ e)
 have ac:∀k,bs.length+k∉fz:=fun k e=>by have:=FX _ e;omega
 have aq:¬d=bs.length:=by omega
 have ax:∀k,¬d=bs.length+k:=fun k=>by omega
 have az:∀k,d<bs.length+k:=fun k=>by omega
 have a0:¬bs.length+1=bs.length:=by omega
 have a4:¬bs.length+2=bs.length:=by omega
 have a5:¬bs.length+2=bs.length+1:=by omega
 have O:Frm ⟨bs,fz,ar⟩ ⟨bs++ [some [.ptr d 0],some [pI q.kind, .d (sF (q.ns.map ay))]],(bs.length+1)::fz,ar⟩:=Frm.new (xf:=[bs.length+1]) (by simp);obtain⟨e1,e2,bq⟩:=Lc (h.frm O);refine aG mixed rfl DX ?_;simp only[tN,dY,afa,o,bp,bD,bQ,aQ,bV,dh,aV,bd,Y,bB,aD,aR,ac,aq,ax,az,a0,a4,a5,mD,wu,JR,RN,F,H,I,J,N,S];refine kS (La bq) rfl (aaA e1 e2 D) rfl ?_;(try simp only[RN,F,H,I,J,N,S]);refine ak rfl rfl (Ah _ _ _) ?_;cases g:inR q.kind 1 12
 ·(try simp only[RN,F,H,I,J,N,S])
  have he:D.ask q=([],2):=by simp[Dk.ask,g]
  rw[he];exact⟨_, .inr ⟨rfl,rfl⟩, .inl ⟨rfl,rfl⟩,(fun k g=>by cases g),O⟩
 have R:1<=q.kind/\q.kind<=12:=by simpa[inR]using g
 simp only[U,RN,F,H,I,J,N,S];refine ak rfl rfl aiy ?_;obtain⟨a1,a2,a3⟩:=aqa R;simp only[a3,a1,RN,F,H,I,J,N,S];refine⟨by omega,by omega,a2,?_⟩
 by_cases hn:q.ns.length=TK q.kind
 case neg=>
  have hb:((q.ns.length:Int) !=(TK q.kind:Int))=true:=by simp;omega
  simp only[hb,RN,F,H,I,J,N,S];have he:D.ask q=([],2):=by simp[Dk.ask,g,hn]
  rw[he];exact⟨_, .inr ⟨rfl,rfl⟩, .inl ⟨rfl,rfl⟩,(fun k g=>by cases g),O⟩
 have hb:((q.ns.length:Int) !=(TK q.kind:Int))=false:=by simp[hn]
 simp only[hb,bD,bQ,aQ,bV,dh,aV,bd,Y,bB,aD,aR,ac,aq,ax,az,a0,a4,a5,mD,wu,JR,agU,lU,be,eP,gI,DC,RN,F,H,I,J,N,S];refine⟨rfl,?_⟩;obtain⟨B,hB⟩:∃B,B=bs++ [some [.ptr d 0],some [pI q.kind, .d (sF (q.ns.map ay))],some [.d .nilPtr, .ptr d 0]]:=⟨_,rfl⟩
 obtain⟨Z,hZ⟩:∃Z,Z=(bs.length+1)::fz:=⟨_,rfl⟩
 have bE:B.length=bs.length+3:=by rw[hB];simp
 have bc:B[bs.length]?=some (some [.ptr d 0]):=by rw[hB,aQ rfl];rfl
 have a9:B[bs.length+2]?=some (some [.d .nilPtr, .ptr d 0]):=by rw[hB,bQ rfl];rfl
 have x:Frm ⟨bs,fz,ar⟩ ⟨B,Z,ar⟩:=by rw[hB,hZ];exact Frm.new (xf:=[bs.length+1]) (by simp)
 have bi:bs.length+2∉Z:=by
  rw[hZ];intro e
  rcases av.1 e with e|e
  ·omega
  ·exact ac _ e
 simp only[<-hB,<-hZ];have bh:Frm ⟨B,Z,ar⟩ ⟨B++ [some [pI 0]],Z,ar⟩:=Frm.new (xf:=[]) (by simp);have adx:=x.trans bh;have z0:((0:Int) !=0)=false:=rfl;have z7:((7:Int) !=0)=true:=rfl;refine Rx (fs:=[]) (cs:=[.ptr bs.length 0, .ptr (bs.length+2) 0]) (x.fzb h.fzb) (by kernel_rfl) ?_;refine SC.jU (SC.mono (alN (h.frm adx) ae (pb:=bs.length) (ab:=bs.length+2) ?_ ?_ bi) ?_) ?_
 ·simp only;rw[ap (by omega)];exact bc
 ·simp only;rw[ap (by omega)];exact a9
 ·rintro v M' ⟨t,b,mb,a,a7,a6,s,f,j,g1,L,w,g4,g5,rfl⟩
  simp only[Y,am,ao]at g4 g5;have z:=adx.trans w;have bv:=w.len;simp only[Y,am,ao]at bv;have P:s[B.length]?=some (some [pI 0]):=by
   have:=w.box B.length (by simp);simp only at this;rw[this,aQ rfl];rfl
  have Q:B.length∉f:=fun e=>by
   have:=(w.fz B.length (by simp)).1 e;simp only at this;have h5:=x.fzb h.fzb _ this;simp only at h5;omega
  obtain⟨n,m⟩:∃n,n=s.set (bs.length+2) (some [.ptr b 0, .ptr d 0]):=⟨_,rfl⟩
  have asR:n.length=s.length:=by rw[m];simp
  have arv:n[bs.length+2]?=some (some [.ptr b 0, .ptr d 0]):=by rw[m,bk (by omega)]
  have arw:n[B.length]?=some (some [pI 0]):=by rw[m,ai (by omega)];exact P
  have A:Frm ⟨bs,fz,ar⟩ ⟨n,f,j⟩:=by rw[m];exact z.KG (by simp only;omega)
  have aM:FzB ⟨n,f,j⟩:=A.fzb h.fzb;have W:n.length∉f:=fun e=>aw _ (aM _ e)
  rw[<-m];refine⟨arw,Q,?_⟩;have bj:bs.length+2<n.length:=by omega
  have jk:0<=q.kind - 1:=by omega
  have bN:q.kind - 1<12:=by omega
  have bO:(q.kind - 1).toNat+1<=12:=by omega
  obtain⟨aL,br⟩:=aoo R;simp only[aE,bl]at aL;simp only[z0,H9,bD,aQ,aV,W,arv,bj,Y,a3,Nat.zero_add,cm,RN,F,H,I,J,N,S];refine⟨rfl,by omega,by omega,by omega,by omega,by omega,?_⟩;rw[aL];simp only[lU,be,eP,fH,RN,F,H,I,J,N,S];refine⟨br,?_⟩;obtain⟨X,hX⟩:∃X,X=[some [PV.d (DV.func (Fn.func 75) [] []),PV.d (DV.func (Fn.func 76) [] []),PV.d (DV.func (Fn.func 77) [] []),PV.d (DV.func (Fn.func 78) [] []),PV.d (DV.func (Fn.func 79) [] []),PV.d (DV.func (Fn.func 80) [] []),PV.d (DV.func (Fn.func 81) [] []),PV.d (DV.func (Fn.func 82) [] []),PV.d (DV.func (Fn.func 83) [] []),PV.d (DV.func (Fn.func 84) [] []),PV.d (DV.func (Fn.func 85) [] []),PV.d (DV.func (Fn.func 86) [] [])]]:=⟨_,rfl⟩
  simp only[<-hX];have E:Frm ⟨bs,fz,ar⟩ ⟨n++X,f,j⟩:=A.trans (Frm.new (xf:=[]) (by simp));have bL:b<s.length/\mb<s.length:=⟨(V.1 L.box).1,(V.1 L.map).1⟩
  have bz:gy D.su a b mb a7 a6 t ⟨n++X,f,j⟩:=L.same (by
    simp only;rw[ap (by omega),m,ai (by omega)]) (by
    simp only;rw[ap (by omega),m,ai (by omega)]) rfl L.nb L.nm (E.fzb h.fzb)
  obtain⟨f1,f2,bA⟩:=ab6 bz;obtain⟨d1,d2,bo⟩:=Lc (h.frm E);have bt:=ae.Vp g1;have hA:=aiu f1 f2 d1 d2 ae bt q R hn;have hL:dF ⟨n++X,f,j⟩ [.ptr b 0, .ptr d 0, .d (sF (q.ns.map ay))]=some [.aW (t.cells f1 f2 D.su),uP d1 d2 D,sF (q.ns.map ay)]:=by
   simp only[dF,bA,bo];rfl
  have an:D.ask q=if(D.answer t q).2=0 then D.answer t q else([],(D.answer t q).2):=by
   simp only[Dk.ask,g,hn,g1];simp
  rw[an];generalize D.answer t q=r at*;obtain⟨l,e⟩:=r;simp only at hA⊢;refine aol (ds:=[xG f1 f2 d1 d2 D t,sF (q.ns.map ay)]) hA (acE hL) rfl fun p c xa hp hs bu=> ?_
  have u:Frm ⟨bs,fz,ar⟩ ⟨n++X,f,j++xa⟩:=E.trans (by have:=Frm.ext (bs:=n++X) (xb:=[]) (fz:=f) (xf:=[]) (ar:=j) (xa:=xa) (by simp);simpa using this);have T:∀k,kOf c=some k->ar.length<=k:=fun k g=>a8 E.bH (bu k g)
  by_cases hr:e=0
  ·subst hr
   simp only[if_true]
   rcases hp with rfl|⟨rfl,rfl⟩
   ·rcases hs with⟨rfl,hl⟩|⟨k,ver,st,rfl,hl⟩
    ·simp only[qc,qg,z0,RN,F,H,I,J,N,S]
     exact⟨_, .inr rfl, .inl ⟨rfl,hl⟩,T,u⟩
    ·simp only[qc,qg,z0,bI,dR,RN,F,H,I,J,N,S]
     exact⟨_, .inl rfl, .inr ⟨k,ver,st,rfl,hl⟩,T,u⟩
   ·simp only[z0,RN,F,H,I,J,N,S]
    exact⟨_, .inr rfl,hs,T,u⟩
  ·have hz:(e !=0)=true:=by simp[hr]
   rw[if_neg hr]
   rcases hp with rfl|⟨rfl,rfl⟩
   ·simp only[qc,qg,hz,RN,F,H,I,J,N,S]
    exact⟨_, .inr rfl, .inl ⟨rfl,rfl⟩,(fun k g=>by cases g),u⟩
   ·simp only[hz,RN,F,H,I,J,N,S]
    exact⟨_, .inr rfl, .inl ⟨rfl,rfl⟩,(fun k g=>by cases g),u⟩
 ·rintro dd ⟨G,K,ar'⟩ ⟨g1,L,w⟩
  have z:=adx.trans w;have bw:=w.len;simp only[Y,am,ao]at bw;have P:G[B.length]?=some (some [pI 0]):=by
   have:=w.box B.length (by simp);simp only at this;rw[this,aQ rfl];rfl
  have Q:B.length∉K:=fun e=>by
   have:=(w.fz B.length (by simp)).1 e;simp only at this;have h5:=x.fzb h.fzb _ this;simp only at h5;omega
  have ajy:=z.fzb h.fzb;have W:G.length∉K:=fun e=>aw _ (ajy _ e)
  have he:D.ask q=([],7):=by simp[Dk.ask,g,hn,g1]
  refine⟨P,Q,W, .inl ⟨L,fun y=> ?_⟩⟩;rw[he];simp only[z7,RN,F,H,I,J,N,S];have A:Frm ⟨bs,fz,ar⟩ ⟨(G++ [y]).set B.length (some [pI 7]),K,ar'⟩:=z.ak8 (by simp only;omega);exact⟨_, .inr rfl, .inl ⟨rfl,rfl⟩,(fun k g=>by cases g),A⟩
end Go.Tel
namespace Go.Proofs
open Go.Shelf Go.RowKit Go.Lib
def Tryz.joinExtra:Builder.Extra Tryz.prog Tryz.laysJoin_ren:={
 sizeBuilder:=by kernel_rfl
 liesBuilder:=by kernel_rfl
 t5:=by kernel_rfl
 a5:=Tryz.isAgg5
 z5:=Tryz.sizeOf5
 v5:=Tryz.zeroValue5
 infoByte:=by kernel_rfl
 cellsByte:=by kernel_rfl
 sizeByte:=by kernel_rfl
 neB5:=by decide}
section
variable {P:Program}{ρ:Ren}
def ahX (L:Lays.n146 P ρ)(h:(P.info? (ρ.t 9)).map (fun i=>(i.zero,i.size,i.bytes))=some (some (.string ByteArray.empty),1,16))(s:ByteArray)(a:UInt8)(w:World)(hs:s.size<4294967281):
  Calls P (ρ.f 146) #[.string s, .string ⟨#[a]⟩] w fun e w'=>
   e= .returned (.slice (some ⟨w.heap.size,0,none⟩) (Lib.countB s ⟨#[a]⟩+1) (Lib.countB s ⟨#[a]⟩+1))/\w'=w.alloc (.cells ((Lib.splitB ⟨#[a]⟩ 0 (Lib.countB s ⟨#[a]⟩) s).map Value.string).toArray (ρ.t 9)):=by
 have h1:1<=(⟨#[a]⟩:ByteArray).size:=bc _;have l:=Lib.countB_le ⟨#[a]⟩ h1 s.size s (bc _);have b:=Lib.splitB_all ⟨#[a]⟩ h1 0 _ s rfl;have c:=Any.strings_genSplit_core {L with} h s ⟨#[a]⟩ 0 (-1) (Lib.countB s ⟨#[a]⟩+1) w hs h1 (az _)
  (fun x cs _=>(Any.strings_Index_one {L with} x a _).mono fun e w' ⟨g,d⟩=>⟨by rw[g];show _=Ending.returned (Value.int .i64 (Lib.index x.data.toList [a]));rw[Lib.index_one],d⟩)
  ((Any.strings_Count_one {L with} s a w).mono fun e w' ⟨g,d⟩=>⟨by rw[g];show _=Ending.returned (Value.int .i64 ((Lib.count s.data.toList [a]:Nat):Int));rw[Lib.count_one];rfl,d⟩)
  (by decide) (by decide) (by rw[if_pos (by decide)];omega)
 rw[Nat.add_sub_cancel,b]at c;have e2:Lib.cellsOf (Lib.splitB ⟨#[a]⟩ 0 (Lib.countB s ⟨#[a]⟩) s) (Lib.countB s ⟨#[a]⟩+1)=((Lib.splitB ⟨#[a]⟩ 0 (Lib.countB s ⟨#[a]⟩) s).map Value.string).toArray:=by rw[<-b];exact Lib.cellsOf_full _
 rw[e2]at c;have r:=L.t3;have u:=L.t9;have m:=L.t31;have p:=L.a3;have q:=L.a9;have k:=L.a31;have z:=L.z3;have v:=L.v3;have A:=L.z9;have y:=L.v9;have o:=L.z31;have n:=L.v31;have j:∀args w,(callFunc (ρ.f 221) args).run P w= .ok (.enter (ρ.f 221) args) w:=enters_of L.f221 (by kernel_rfl) rfl
 go_enter L.f146,Body.n146_ntmps ρ
 go_wp2_with (go_at_fn (ρ.f 221);refine c.mono ?_;rintro e w' ⟨rfl,d⟩;rw[d])
 go_ret
 exact⟨rfl,rfl⟩
end
end Go.Proofs
namespace Go.Tel
open Go.Am
def mX (s:ByteArray)(c:UInt8):List ByteArray:=Go.Lib.splitB ⟨#[c]⟩ 0 (Go.Lib.countB s ⟨#[c]⟩) s
def KJ (s:ByteArray)(c:UInt8):(mX s c).length=Go.Lib.countB s ⟨#[c]⟩+1:=Go.Lib.splitB_all ⟨#[c]⟩ (bc _) 0 _ s rfl
def Xv {w:World}{O:Nat->Prop}:∀xs:List ByteArray,aX w O (xs.map Value.string) (xs.map DV.str)
 | []=> .nil
 |x::xs=> .cons (.str _) (Xv xs)
def Ob:∀xs:List ByteArray,flat (xs.map DV.str)=xs.map DV.str
 | []=>rfl
 |x::xs=>by
  have:=Ob xs;simp only[flat]at this⊢;simp only[aE,bS,this]
  rfl
def alI (s:ByteArray)(c:UInt8)(hs:s.size<=1000000):Am.Pure Go.Tel.C 219 [.str s, .str ⟨#[c]⟩] (.d (.slice false ((mX s c).map .str))) []:=by
 refine qQ fun X w b g a f=> ?_
 cases f with|cons h1 t1=>
 cases t1 with|cons h2 t2=>
 cases t2;cases h1;cases h2;refine(Go.Proofs.ahX Go.Proofs.Tryz.laysSplit (by kernel_rfl) s c w (by omega)).mono ?_;rintro e i ⟨rfl,rfl⟩;refine⟨_,rfl,Later.alloc w _,?_⟩;refine .slice (sz:=1) (T:=Go.Proofs.Tryz.laysSplit_ren.t 9) (fz:=(0,0)) (cs:=((mX s c).map Value.string).toArray) ?_ (fun h=>aw _ (a _ h)) (by simp[KJ]) (by intro x a;obtain⟨y,_,rfl⟩:=bo.1 a;rfl) (bc _) (fun h=>by cases h) ?_
 ·show(w.heap.push _)[w.heap.size]?=_
  rw[Array.getElem?_push_size];rfl
 ·rw[Ob]
  simp only[aR,cm];rw[b9 (by simp[KJ])];exact Xv _
def aog (n:Int)(c: -9223372036854775808<=n)(h1:n<=9223372036854775807):Am.Pure Go.Tel.C 213 [.int .i64 n] (.d (.str ⟨(Go.Lib.itoa n).toArray⟩)) []:=by
 refine qQ fun X w a f i h=> ?_
 cases h with|cons h2 t2=>
 cases t2;cases h2;refine(Go.Proofs.Any.strconv_Itoa Go.Proofs.Tryz.laysItoa n c h1 w f).mono ?_;rintro e j ⟨rfl,k,os,rfl⟩;exact⟨_,rfl,⟨rfl,rfl,rfl,by simp[Go.Sort.grow],fun b g=>by simp only[Go.Sort.grow];rw[Array.getElem?_append_left (by exact g)];rfl⟩, .str _⟩
def afk (xs:List ByteArray)(a:ByteArray):ByteArray:=⟨(Go.Lib.join (xs.map (·.data.toList)) a.data.toList).toArray⟩
def Jr {w:World}{O:Nat->Prop}:∀{vs:List Value} {xs:List ByteArray},aX w O vs (xs.map DV.str)->vs=xs.map Value.string
 | _,[], .nil=>rfl
 | _,x::xs, .cons h t=>by
  cases h;rw[Jr t]
  rfl
end Go.Tel
namespace Go.Am
section
variable {C:Ctx}{base:Nat}{M:Mem}{K:PV->Mem->Prop}{KP:DV->Mem->Prop}
variable{a b:ByteArray}
def oD {op:BinOp}{K:DV->Prop}:O6 op (.d (.str a)) (.d (.str b)) K=AO op a b K:=propext ⟨id,id⟩
def Iq {K:DV->Prop}:AO .add a b K=(a.size+b.size<=9223372036854775807/\K (.str (a++b))):=propext ⟨id,id⟩
def RJ {K:DV->Prop}:AO .eql a b K=K (.bool (a.toList==b.toList)):=propext ⟨id,id⟩
def Zm {K:DV->Prop}:AO .neq a b K=K (.bool (!(a.toList==b.toList))):=propext ⟨id,id⟩
end
end Go.Am
namespace Go.Tel
open Go.Am
def size_data (b:ByteArray):b.data.toList.length=b.size:=bh
def aoh (xs:List ByteArray)(b:ByteArray)(F:xs.length<=1000000)(hl:(Go.Lib.join (xs.map (·.data.toList)) b.data.toList).length<=1000000000):
  Am.Pure Go.Tel.C 218 [sF (xs.map .str), .str b] (.d (.str (afk xs b))) []:=by
 refine qQ fun X w u E H A=> ?_
 cases A with|cons h1 t1=>
 cases t1 with|cons y t2=>
 cases t2;cases y;generalize h:xs.map DV.str=ys at h1;cases h1 with
 |empty=>
  rw[bN]at h;subst h;refine(Go.Proofs.Any.strings_Join_none Go.Proofs.Tryz.laysJoin Go.Proofs.Tryz.joinExtra _ _ b w).mono ?_;rintro e v ⟨rfl,rfl⟩;exact⟨_,rfl,Later.refl _, .str _⟩
 |slice q G f B z D g=>
 rename_i i k len cap sz cs T fz
 subst h;rw[U]at f;subst f
 by_cases s:xs=[]
 ·subst s
  refine(Go.Proofs.Any.strings_Join_none Go.Proofs.Tryz.laysJoin Go.Proofs.Tryz.joinExtra _ _ b w).mono ?_;rintro e v ⟨rfl,rfl⟩;exact⟨_,rfl,Later.refl _, .str _⟩
 have o:sz=1:=by
  obtain⟨p,l,rfl⟩:∃p l,xs=p::l:=by
   cases xs with
   |nil=>exact absurd rfl s
   |cons a t=>exact⟨a,t,rfl⟩
  rw[<-B (.str p) (by simp)];rfl
 subst o;rw[Ob,cm]at g;have n:=Jr g;refine(Go.Proofs.Any.strings_Join Go.Proofs.Tryz.laysJoin Go.Proofs.Tryz.joinExtra i k cap xs b w (fun j x r=> ?_) (dw q) (by omega) z (by omega)).mono ?_
 ·have m:j<xs.length:=(V.1 r).1
  rw[cell_of_row w i (k+j) cs T fz q];have:=congrArg (fun l=>l[j]?) n;simp only[List.getElem?_take,m,if_true,List.getElem?_drop,Array.getElem?_toList,cf,r,bL]at this;exact this
 ·rintro e v ⟨rfl,c⟩
  exact⟨_,rfl,⟨c.os,c.tape,c.output,c.size,c.block⟩, .str _⟩
def tK (n:Int):ByteArray:=⟨(Go.Lib.itoa n).toArray⟩
def I64 (n:Int):Prop:= -9223372036854775808<=n/\n<=9223372036854775807
def Jy {n:Int}(h:I64 n):Pure C 213 [dI n] (.d (.str (tK n))) []:=aog n h.1 h.2
def JU {n:Int}(h:I64 n):(tK n).size<=21:=by
 have:=Go.Lib.itoa_length_le n h.1 h.2
 simpa[tK,cp]using this
def PI {B:Nat}(a:UInt8):∀(r:List (List UInt8)),(∀x∈r,x.length<=B)->(Go.Lib.joinTail [a] r).length<=r.length*(B+1)
 | [],_=>by simp[Go.Lib.joinTail]
 |x::r,h=>by
  have c:=PI a r (fun y b=>h y (ca _ b));have d:=h x cb;simp only[Go.Lib.joinTail,aE,List.flatten_cons,Y,am,ao]at c⊢;rw[cw];omega
def join_le {B:Nat}(a:UInt8)(xs:List (List UInt8))(h:∀x∈xs,x.length<=B):(Go.Lib.join xs [a]).length<=xs.length*(B+1):=by
 cases xs with
 |nil=>simp[Go.Lib.join_nil]
 |cons x r=>
  rw[Go.Lib.join_cons,Y,am,cw];have:=PI a r (fun y b=>h y (ca _ b));have:=h x cb;omega
def adM (xs:List ByteArray)(c:UInt8):(afk xs ⟨#[c]⟩).size=(Go.Lib.join (xs.map (·.data.toList)) [c]).length:=by
 unfold afk
 show(List.toArray _).size=_
 rw[cj]
def Rw (ns:List Int):ByteArray:=afk (ns.map tK) ⟨#[32]⟩
variable{ns:List Int}
def TB (h:∀n∈ns,I64 n):(Go.Lib.join ((ns.map tK).map (·.data.toList)) [32]).length<=ns.length*22:=by
 have:=join_le (B:=21) 32 ((ns.map tK).map (·.data.toList)) (fun x a=>by
  simp only[bo]at a;obtain⟨y,⟨n,b,rfl⟩,rfl⟩:=a;rw[size_data];exact JU (h n b))
 simpa using this
def Yj (h:∀n∈ns,I64 n):(Rw ns).size<=ns.length*22:=by
 rw[Rw,adM];exact TB h
variable{s:ByteArray}
def JF:DV.cells (.str s)=[.str s]:=rfl
def ajl:DV.fits 1 (.str s)=true:=rfl
def ajL (ns:List Int)(hl:ns.length<=1000)(h:∀n∈ns,I64 n):Pure C 122 [sF (ns.map ay)] (.d (.str (Rw ns))) []:=by
 refine ah mixed rfl Gg ?_;simp only[wS,aK,U,RN,F,H,I,J,N,S];refine aH ns.length (fun i (v:Nat)=>⟨[(3, .tsl 0 v 0),(6, .d (sF (ns.map ay))),(7,pI ns.length),(8,pI i)],⟨[],[],[some ⟨1,((ns.take i).map tK).map .str,v,0⟩]⟩⟩)
  (fun _ _=>True) 0 0 (az _) rfl trivial (fun i v a _=> ?_) (fun v _=> ?_)
 ·obtain⟨b,c,e⟩:=rng a (by omega)
  simp only[b,c,a,getD_map,aI,aq,U,RN,F,H,I,J,N,S];refine ak rfl rfl (Jy (h _ (getD_mem a))) ?_;simp only[iC,DV.strip,JF,ajl,forall_eq,U,RN,F,H,I,J,N,S];refine⟨by simp,by simp;omega,?_⟩;simp only[e,RN,F,H,I,J,N,S];refine bn (v+1) a ?_ trivial;rw[aS a];simp
 ·simp only[aM,RN,F,H,I,J,N,S]
  rw[br];refine kS (sU (d:=sF ((ns.map tK).map .str)) (by simp[datum,Mem.row])) rfl (aoh (ns.map tK) ⟨#[32]⟩ (by simp;omega) (by have:=TB h;simp only at this⊢;omega)) rfl ?_;(try simp only[RN,F,H,I,J,N,S])
  rfl
end Go.Tel
namespace Go.Am
section
variable {C:Ctx}{base:Nat}{L:PV->Mem->Prop}{KP:DV->Mem->Prop}{bs:List (Option (List PV))}{fz:List Nat}{ar:List (Option Arr)}
variable{s:ByteArray}
def amf {i:Nat}:au C base (.rngS i) [.d (.str s)] ⟨bs,fz,ar⟩ L KP=(bs[base+i]?=some none/\L (.yP (base+i)) ⟨bs.set (base+i) (some [.FH s 0]),fz,ar⟩):=propext ⟨id,id⟩
def adn {b pos c n:Nat}(h:bs[b]?=some (some [.FH s pos]))(hf:b∉fz)(e:pos<s.size)(hd:Utf8.decode s pos=(c,n))(a:L (.d (.tup [.bool true,dI pos, .int .i32 c])) ⟨bs.set b (some [.FH s (pos+n)]),fz,ar⟩):
  au C base .aaS [.yP b] ⟨bs,fz,ar⟩ L KP:=by
 simp only[au,Mem.box,h,hd];exact⟨hf,by rw[if_pos e];exact a⟩
def aai {b pos:Nat}(h:bs[b]?=some (some [.FH s pos]))(hf:b∉fz)(c:¬pos<s.size)(a:L (.d (.tup [.bool false])) ⟨bs,fz,ar⟩):
  au C base .aaS [.yP b] ⟨bs,fz,ar⟩ L KP:=by
 simp only[au,Mem.box,h];exact⟨hf,by rw[if_neg c];exact a⟩
variable{M:Mem}{K:PV->Mem->Prop}
def Dw {sz:Nat}{xs:List DV}{k:IntKind}{n:Int}(hs:∀x∈xs,x.cells.length=sz)(a:0<=n)(h1:n<=xs.length):
  au C base (.Eu sz true false false) [.d (.slice false xs), .d (.int k n)] M K KP=K (.d (sF (xs.drop n.toNat))) M:=by
 simp only[au,yA,eu,a7,bj,aq,br,bi,Bool.or_false];refine propext ⟨fun h=>h.2.2.2.2.2.2,fun h=>⟨trivial,hs,a,h1,cl _,fun c b=>b,h⟩⟩
def ajb {neq:Bool}{a c:ByteArray}{b d:Int}:au C base (.Fe neq [2,1]) [.d (.agg [.str a,dI b]), .d (.agg [.str c,dI d])] M K KP=K (.d (.bool (((a.toList==c.toList)&&(b==d)) !=neq))) M:=by
 rw[afb (t:=(a.toList==c.toList)&&(b==d))];simp[dK]
end
end Go.Am
namespace Go.Tel
open Go.Am
def anI (xs:List ByteArray):∀y∈xs.map DV.str,y.cells.length=1:=by
 intro y a;obtain⟨n,_,rfl⟩:=bo.1 a;rfl
def aqb {p:ByteArray×Nat}:adt p= .agg [.str p.1,dI (p.2:Int)]:=rfl
def vO (s:ByteArray)(n:Nat)(p:ByteArray×Nat):Bool:=(s.toList==p.1.toList)&&((n:Int)==(p.2:Int))
def aav (l:List (ByteArray×Nat))(hl:l.length<=1000)(s:ByteArray)(n:Nat):Pure C 220 [sF (l.map adt), .agg [.str s,dI (n:Int)]] (.d (dI (lY (vO s n) l 0))) []:=by
 refine ah mixed rfl uQ ?_;simp only[kR,aJ,U,RN,F,H,I,J,N,S];refine aH l.length (fun i (_:Unit)=>⟨[(0, .d (sF (l.map adt))),(3, .d (.aW [.str s,dI (n:Int)])),(7,pI l.length),(8,pI i)],⟨[some [.d (.str s),pI (n:Int)]],[0],[]⟩⟩)
  (fun i _=>lY (vO s n) l 0=lY (vO s n) (l.drop i) i) 0 () (az _) rfl rfl (fun i _ h1 a=> ?_) (fun _ a=> ?_)
 ·obtain⟨h2,c,e⟩:=rng h1 (by omega)
  rw[drop_cons h1,lY]at a;simp only[h2,c,h1,getD_map,aq,U,aqb,ajb,ae6,RN,F,H,I,J,N,S];cases b:vO s n (l.getD i default)
  ·rw[if_neg (fun h=>by rw[b]at h;cases h)]at a
   rw[vO]at b;simp only[b,e,RN,F,H,I,J,N,S];exact bn () h1 rfl a
  ·rw[if_pos b]at a
   rw[vO]at b;simp only[b,RN,F,H,I,J,N,S];rw[a]
 ·rw[bA,lY]at a
  simp only[aM,a,RN,F,H,I,J,N,S]
def wK {b:Bool}{s:ByteArray}{M:Mem}{K:PV->Mem->Prop}{KP:DV->Mem->Prop}(c:b=true->K (.d (.tup [])) M)(e:b=false->∀d,RS d->KP d M):SC C 221 [.d (.bool b), .d (.str s)] M K KP:=by
 refine Go.Am.Ve (ds:=[.bool b, .str s]) (Kr:=fun x=>b=true/\x= .tup []) (Kp:=fun d=>b=false/\RS d) ?_ (fun x a=>by rw[a.2];exact c a.1) (fun d hd=>e hd.1 d hd.2);refine aG mixed rfl J6 ?_;cases b
 ·simp only[rC,jq,LJ,JJ,RN,F,H,I,J,N,S]
  exact⟨s,rfl⟩
 ·simp only[rC,jq,RN,F,H,I,J,N,S]
  exact⟨_,rfl,rfl⟩
def WY (w:ByteArray):Nat->Nat->Int->Option Int
 |0,_,n=>some n
 |k+1,pos,n=>if 48<=(w.data.getD pos 0).toNat/\(w.data.getD pos 0).toNat<=57/\w.size<=4 then WY w k (pos+1) (10*n+(((w.data.getD pos 0).toNat:Int) - 48))else none
def Aj (w:ByteArray):Option Int:=match WY w w.size 0 0 with
 |some n=>if w.size≠0/\(tK n).data.toList=w.data.toList then some n else none
 |none=>none
def JX:List ByteArray->List Int->Option (List Int)
 | [],a=>some a
 |x::l,a=>match Aj x with
  |some n=>JX l (a++ [n])
  |none=>none
def AB (line:ByteArray)(fm:List (ByteArray×Nat)):Option (Int×List Int):=
 if lY (vO ((mX line 32).getD 0 default) ((mX line 32).length - 1)) fm 0>=0 then
  (match JX ((mX line 32).drop 1) []with
  |some l=>some (lY (vO ((mX line 32).getD 0 default) ((mX line 32).length - 1)) fm 0,l)
  |none=>none)
 else none
def Yg {α:Type}(p:α->Bool):∀(l:List α) (i:Nat), -1<=lY p l i/\lY p l i<=(i+l.length:Nat)
 | [],i=>by simp only[lY];omega
 |x::l,i=>by
  simp only[lY]
  split
  ·simp;omega
  ·have:=Yg p l (i+1);simp only[am];omega
def afO {line:ByteArray}(hr:line.size<=1000000)(fm:List (ByteArray×Nat))(B:fm.length<=1000)(ex:Bool){M:Mem}{K:PV->Mem->Prop}{KP:DV->Mem->Prop}
  (hK:∀o ns,AB line fm=some (o,ns)->K (.d (.tup [dI o,sF (ns.map ay)])) M)(hP:AB line fm=none->∀d,RS d->KP d M):SC C 126 [.d (.str line), .d (.slice ex (fm.map adt))] M K KP:=by
 refine Go.Am.Ve (ds:=[.str line, .slice ex (fm.map adt)]) (Kr:=fun x=>∃a ns,AB line fm=some (a,ns)/\x= .tup [dI a,sF (ns.map ay)]) (Kp:=fun d=>AB line fm=none/\RS d) ?_ (fun x hx=>by obtain⟨a,ns,h1,rfl⟩:=hx;exact hK a ns h1) (fun d hd=>hP hd.1 d hd.2);have hl:=KJ line 32;have ab:=Go.Lib.countB_le ⟨#[32]⟩ (bc _) line.size line (bc _);have apu:=alI line 32 hr;refine aG mixed rfl J7 ?_;simp only[zf,dY,RN,F,H,I,J,N,S];refine ak rfl rfl apu ?_;have afN:AB line fm=if lY (vO ((mX line 32).getD 0 default) ((mX line 32).length - 1)) fm 0>=0 then(match JX ((mX line 32).drop 1) []with|some l=>some (lY (vO ((mX line 32).getD 0 default) ((mX line 32).length - 1)) fm 0,l)|none=>none)else none:=rfl
 have ae:(mX line 32).length<=1000001:=by omega
 have ac:1<=(mX line 32).length:=by omega
 generalize mX line 32=ws at*;have i0:(0:Int)<=0:=by decide
 have l0:0<ws.length:=by omega
 have R:cB .i64 ((ws.length:Int) - 1)=((ws.length - 1:Nat):Int):=by rw[aF (by omega)];omega
 have D:=aav fm B (ws.getD 0 default) (ws.length - 1);have asV:=Yg (vO (ws.getD 0 default) (ws.length - 1)) fm 0;simp only[U,i0,l0,Int.toNat_zero,getD_map,JF,R,RN,F,H,I,J,N,S];refine ak rfl rfl D ?_;(try simp only[RN,F,H,I,J,N,S]);generalize lY (vO (ws.getD 0 default) (ws.length - 1)) fm 0=ix at*;refine wK (fun e2=> ?_) (fun e2 d b=>⟨by rw[afN,if_neg (of_decide_eq_false e2)],b⟩);rw[if_pos (of_decide_eq_true e2)]at afN;(try simp only[RN,F,H,I,J,N,S]);rw[Dw (anI ws) (by decide) (by rw[U];omega)];have A:(ws.map DV.str).drop (Int.toNat 1)=(ws.drop 1).map DV.str:=by rw[List.map_drop];rfl
 rw[A];have P:(ws.drop 1).length<=1000000:=by simp;omega
 generalize ws.drop 1=xs at*;simp only[U,RN,F,H,I,J,N,S];refine aH xs.length (fun i (q:List Int×Nat)=>⟨[(0, .d (.str line)),(7,pI ix),(8, .tsl 1 q.2 0),(30, .d (sF (xs.map .str))),(31,pI xs.length),(32,pI i)],⟨[],[],[some ⟨1,[],0,0⟩,some ⟨1,q.1.map ay,q.2,0⟩]⟩⟩)
  (fun i q=>JX xs []=JX (xs.drop i) q.1/\q.1.length=i) 0 ([],0) (az _) rfl ⟨rfl,rfl⟩ (fun i q s p=> ?_) (fun q p=> ?_)
 ·obtain⟨f,ver⟩:=q
  obtain⟨r1,r2⟩:=p;simp only at r1 r2;obtain⟨X,Y,Z⟩:=rng s P;rw[drop_cons s,JX]at r1;obtain⟨w,T⟩:∃w,w=xs.getD i default:=⟨_,rfl⟩
  rw[<-T]at r1;have e:Aj w=none->AB line fm=none:=fun h=>by rw[afN,r1,h]
  simp only[X,Y,s,getD_map,aq,U,JF,<-T,amf,RN,F,H,I,J,N,S];refine jo (fun(q:Nat×Int)=>⟨[(0, .d (.str line)),(7,pI ix),(8, .tsl 1 ver 0),(10, .d (.str w)),(11,pI q.2),(30, .d (sF (xs.map .str))),(31,pI xs.length),(32,pI i),(37, .yP 0)],⟨[some [.FH w q.1]],[],[some ⟨1,[],0,0⟩,some ⟨1,f.map ay,ver,0⟩]⟩⟩)
   (fun q=>q.1<=w.size/\WY w w.size 0 0=WY w (w.size - q.1) q.1 q.2/\0<=q.2/\q.2<10 ^ q.1/\(0<q.1->w.size<=4)) (fun q=>w.size - q.1) (0,0) rfl ⟨az _,rfl,by decide,by decide,by simp⟩ (fun q p=> ?_)
  obtain⟨pos,n⟩:=q;obtain⟨q1,g,q3,q4,W⟩:=p;simp only at q1 g q3 q4 W
  by_cases j:pos<w.size
  ·obtain⟨c,y,hd⟩:∃c y,Utf8.decode w pos=(c,y):=⟨_,_,rfl⟩
   have hg:w.data.getD pos 0=w[pos]'j:=by
    rw[Array.getD_eq_getD_getElem?,Array.getElem?_eq_getElem (show pos<w.data.size from j)];rfl
   have z:(48<=(w.data.getD pos 0).toNat/\(w.data.getD pos 0).toNat<=57↔48<=c/\c<=57)/\(c<=57->c=(w.data.getD pos 0).toNat/\y=1):=by
    rw[hg]
    by_cases ha:(w[pos]'j).toNat<128
    ·have:=decode_ascii w pos j ha
     rw[hd]at this;cases this;exact⟨cv,fun _=>⟨rfl,rfl⟩⟩
    ·have:=(decode_high w pos j (by omega)).1
     rw[hd]at this;simp only at this;exact⟨by omega,by omega⟩
   obtain⟨k,hk⟩:∃k,w.size - pos=k+1:=⟨w.size - pos - 1,by omega⟩
   rw[hk,WY]at g;have bad:¬(48<=c/\c<=57/\w.size<=4)->Aj w=none:=by
    intro G;rw[if_neg (by intro hh;exact G ⟨(z.1.1 ⟨hh.1,hh.2.1⟩).1,(z.1.1 ⟨hh.1,hh.2.1⟩).2,hh.2.2⟩)]at g;rw[Aj,g]
   (try simp only[RN,F,H,I,J,N,S]);refine adn rfl (by simp) j hd ?_
   by_cases v:(c:Int)>=48
   case neg=>
    simp only[v,RN,F,H,I,J,N,S];exact wK (fun h=>by cases h) (fun _ d b=>⟨e (bad (by omega)),b⟩)
   by_cases Q:(c:Int)<=57
   case neg=>
    simp only[v,Q,RN,F,H,I,J,N,S];exact wK (fun h=>by cases h) (fun _ d b=>⟨e (bad (by omega)),b⟩)
   by_cases V:(w.size:Int)<=4
   case neg=>
    simp only[v,Q,V,RN,F,H,I,J,N,S];exact wK (fun h=>by cases h) (fun _ d b=>⟨e (bad (by omega)),b⟩)
   simp only[v,Q,V,RN,F,H,I,J,N,S];refine wK (fun _=> ?_) (fun h=>by cases h);obtain⟨hc,rfl⟩:=z.2 (by omega);rw[if_pos ⟨by omega,by omega,by omega⟩,<-hc]at g;have O:(10:Int) ^ pos<=1000:=by
    rcases pos with _| _| _| _|pos
    ·decide
    ·decide
    ·decide
    ·decide
    ·omega
   have R:cB .i64 (10*n)=10*n:=aF (by omega);have w2:IntKind.i32.wrap ((c:Int) - 48)=(c:Int) - 48:=by
    obtain⟨m,hm⟩:∃m:Nat,(c:Int) - 48=m:=Int.eq_ofNat_of_zero_le (by omega)
    have E:m<10:=by omega
    rw[hm];exact(by decide:∀m<10,IntKind.i32.wrap ((m:Nat):Int)=m) m E
   have w3:cB .i64 ((c:Int) - 48)=(c:Int) - 48:=aF (by omega);have w4:cB .i64 (10*n+((c:Int) - 48))=10*n+((c:Int) - 48):=aF (by omega);simp only[R,w2,w3,w4,RN,F,H,I,J,N,S];refine RQ (a:=(pos,n)) (μ:=fun q=>w.size - q.1) (pos+1,10*n+((c:Int) - 48)) (by simp only;omega) rfl ⟨by simp only;omega,?_,by simp only;omega,?_,fun _=>by omega⟩ (by simp) (by simp) rfl rfl
   ·simp only
    rw[g,show w.size - (pos+1)=k by omega]
   ·simp only[Int.pow_succ];omega
  ·have L:pos=w.size:=by omega
   rw[L,Nat.sub_self,WY]at g;(try simp only[RN,F,H,I,J,N,S]);refine aai rfl (by simp) j ?_;have r:(w.toList==(⟨#[]⟩:ByteArray).toList)=decide (w.size=0):=by
    rw[Go.Lib.toList_data,Go.Lib.toList_data,<-size_data];cases w.data.toList<;>simp
   by_cases u:w.size=0
   ·rw[decide_eq_true u]at r
    simp only[oD,Zm,r,RN,F,H,I,J,N,S];exact wK (fun h=>by cases h) (fun _ d b=>⟨e (by rw[Aj,g];simp[u]),b⟩)
   ·rw[decide_eq_false u]at r
    have ai:w.size<=4:=W (by omega);have O:(10:Int) ^ pos<=10000:=by
     rcases pos with _| _| _| _| _|pos
     ·decide
     ·decide
     ·decide
     ·decide
     ·decide
     ·omega
    simp only[oD,Zm,r,RN,F,H,I,J,N,S];refine ak rfl rfl (Jy ⟨by omega,by omega⟩) ?_
    by_cases t:(tK n).data.toList=w.data.toList
    ·have e1:((tK n).toList==w.toList)=true:=by rw[Go.Lib.toList_data,Go.Lib.toList_data];exact beq_iff_eq.2 t
     have G:Aj w=some n:=by rw[Aj,g];simp only;rw[if_pos ⟨u,t⟩]
     rw[G]at r1;simp only[oD,RJ,e1,RN,F,H,I,J,N,S];refine wK (fun _=> ?_) (fun h=>by cases h);simp only[iC,fits_int,forall_eq,DV.strip,lI,U,RN,F,H,I,J,N,S];refine⟨by simp,by omega,?_⟩;simp only[Z,RN,F,H,I,J,N,S];refine jv 0 2 (f++ [n],ver+1) s ?_ ⟨r1,by simp[r2]⟩ (by simp) (by simp) rfl rfl;simp only[bt,aE,bl,aI];rfl
    ·have e1:((tK n).toList==w.toList)=false:=by rw[Go.Lib.toList_data,Go.Lib.toList_data];exact beq_eq_false_iff_ne.2 t
     simp only[oD,RJ,e1,RN,F,H,I,J,N,S];exact wK (fun h=>by cases h) (fun _ d b=>⟨e (by rw[Aj,g];simp only;rw[if_neg (fun hh=>t hh.2)]),b⟩)
 ·obtain⟨f,ver⟩:=q
  obtain⟨r1,r2⟩:=p;simp only at r1 r2;rw[bA,JX]at r1;simp only[aM,bI,dR,be,RN,F,H,I,J,N,S];exact⟨.tup [dI ix,sF (f.map ay)],by simp[datum,cu,fA,Mem.row,aco,iZ],ix,f,by rw[afN,r1],rfl⟩
end Go.Tel
namespace Go.Tel
open Go.Am
def fG (line:ByteArray):En×Int:=
 if line.size>60 then(⟨0,[]⟩,3)else match AB line fmL with
  |some (a,ns)=>(⟨1+a,ns⟩,0)
  |none=>(⟨0,[]⟩,4)
def iF (line:ByteArray):Qn×Int:=match AB line amL with
 |some (a,ns)=>(⟨1+a,ns⟩,0)
 |none=>(⟨0,[]⟩,4)
def DK (k:Int)(ns:List Int)(e:Int):DV:= .tup [.agg [dI k, .slice (decide (e≠0)) (ns.map ay)],dI e]
variable{line:ByteArray}
def aci {fm:List (ByteArray×Nat)}{a:Int}{ns:List Int}(h:AB line fm=some (a,ns)):0<=a/\a<=fm.length:=by
 unfold AB at h
 split at h
 ·rename_i b
  have c:=(Yg (vO ((mX line 32).getD 0 default) ((mX line 32).length - 1)) fm 0).2
  split at h
  ·cases h;omega
  ·cases h
 ·cases h
def aht (n:line.size<=1000000){bs:List (Option (List PV))}{fz:List Nat}{ar:List (Option Arr)}(b:FzB ⟨bs,fz,ar⟩){xb:Nat}{j l:PV}(hx:bs[xb]?=some (some [j,l]))(f:xb∉fz):
  SC C 125 [.d (.aW [.str line]), .ptr xb 0] ⟨bs,fz,ar⟩
   (fun _ M'=>∃a ns y,AB line fmL=some (a,ns)/\M'=⟨bs.set xb (some [pI (1+a), .d (sF (ns.map ay))])++ [y],bs.length::fz,ar⟩)
   (fun d M'=>AB line fmL=none/\RS d/\∃y,M'=⟨bs++ [y],bs.length::fz,ar⟩):=by
 have c:bs.length∉fz:=fun e=>aw _ (b _ e)
 have g:xb<bs.length:=(V.1 hx).1;have apx:∀k,xb<bs.length+k:=fun k=>by omega
 have i:¬xb=bs.length:=by omega
 refine aG mixed rfl Fv ?_;simp only[vk,jq,RN,F,H,I,J,N,S];refine ak rfl rfl aff ?_;rw[afe];simp only[aQ,aV,c,Y,X8,RN,F,H,I,J,N,S];refine⟨(fun h=>by cases h),?_⟩
 show SC C 126 [.d (.str line), .d (.slice true (fmL.map adt))] _ _ _
 refine afO n fmL (by decide) true (fun a ns h=> ?_) (fun h d hd=> ?_)
 ·have p:=aci h
  have m:(fmL:List (ByteArray×Nat)).length<=12:=by decide
  have o:cB .i64 (1+a)=1+a:=aF (by omega);simp only[o,bD,g,apx,hx,bV,f,i,av,or_false,H9,RN,F,H,I,J,N,S];exact⟨a,ns,_,h,rfl⟩
 ·exact⟨h,hd,_,rfl⟩
def ahB (n:line.size<=1000000){bs:List (Option (List PV))}{fz:List Nat}{ar:List (Option Arr)}(b:FzB ⟨bs,fz,ar⟩){xb:Nat}{j l:PV}(hx:bs[xb]?=some (some [j,l]))(f:xb∉fz):
  SC C 274 [.d (.aW [.str line]), .ptr xb 0] ⟨bs,fz,ar⟩
   (fun _ M'=>∃a ns y,AB line amL=some (a,ns)/\M'=⟨bs.set xb (some [pI (1+a), .d (sF (ns.map ay))])++ [y],bs.length::fz,ar⟩)
   (fun d M'=>AB line amL=none/\RS d/\∃y,M'=⟨bs++ [y],bs.length::fz,ar⟩):=by
 have c:bs.length∉fz:=fun e=>aw _ (b _ e)
 have g:xb<bs.length:=(V.1 hx).1;have apx:∀k,xb<bs.length+k:=fun k=>by omega
 have i:¬xb=bs.length:=by omega
 refine aG mixed rfl Bh ?_;simp only[qM,jq,RN,F,H,I,J,N,S];refine ak rfl rfl aiy ?_;rw[afd];simp only[aQ,aV,c,Y,X8,RN,F,H,I,J,N,S];refine⟨(fun h=>by cases h),?_⟩
 show SC C 126 [.d (.str line), .d (.slice true (amL.map adt))] _ _ _
 refine afO n amL (by decide) true (fun a ns h=> ?_) (fun h d hd=> ?_)
 ·have p:=aci h
  have m:(amL:List (ByteArray×Nat)).length<=12:=by decide
  have o:cB .i64 (1+a)=1+a:=aF (by omega);simp only[o,bD,g,apx,hx,bV,f,i,av,or_false,H9,RN,F,H,I,J,N,S];exact⟨a,ns,_,h,rfl⟩
 ·exact⟨h,hd,_,rfl⟩
def alF (line:ByteArray):Pure C 44 [.str line] (.d (DK (fG line).1.kind (fG line).1.ns (fG line).2)) []:=by
 refine ah mixed rfl II ?_;simp only[xP,Zc,RN,F,H,I,J,N,S]
 by_cases f:line.size>60
 ·have e:decide ((line.size:Int)>60)=true:=by simp;omega
  have c:fG line=(⟨0,[]⟩,3):=by rw[fG,if_pos f]
  simp only[e,c,DK,RN,F,H,I,J,N,S]
  rfl
 ·have e:decide ((line.size:Int)>60)=false:=by simp;omega
  simp only[e,lU,be,RN,F,H,I,J,N,S];have z0:((0:Int) !=0)=false:=rfl;have j:((4:Int) !=0)=true:=rfl;refine Rx (fs:=[]) (cs:=[.d (.aW [.str line]), .ptr 2 0]) (fun i b=>by simp at b;simp[b]) (by kernel_rfl) ?_;refine SC.jU (SC.mono (aht (line:=line) (by omega) (fun i b=>by simp at b;simp[b]) (xb:=2) rfl (by simp)) ?_) ?_
  ·rintro v g ⟨a,ns,y,h,rfl⟩
   have c:fG line=(⟨1+a,ns⟩,0):=by rw[fG,if_neg f,h]
   refine⟨rfl,by simp,?_⟩;simp only[z0,c,DK,av,ae,or_false,RN,F,H,I,J,N,S];simp
  ·rintro d g ⟨h,hd,y,rfl⟩
   have c:fG line=(⟨0,[]⟩,4):=by rw[fG,if_neg f,h]
   refine⟨rfl,by simp,by simp, .inr ⟨hd,fun x=> ?_⟩⟩;simp only[j,c,DK,av,ae,or_false,RN,F,H,I,J,N,S]
   rfl
def aep (line:ByteArray)(hl:line.size<=1000000):Pure C 214 [.str line] (.d (DK (iF line).1.kind (iF line).1.ns (iF line).2)) []:=by
 refine ah mixed rfl D5 ?_;simp only[tY,Zc,lU,be,RN,F,H,I,J,N,S];refine Rx (fs:=[]) (cs:=[.d (.aW [.str line]), .ptr 2 0]) (fun i b=>by simp at b;simp[b]) (by kernel_rfl) ?_;refine SC.jU (SC.mono (ahB (line:=line) hl (fun i b=>by simp at b;simp[b]) (xb:=2) rfl (by simp)) ?_) ?_
 ·rintro v e ⟨a,ns,y,h,rfl⟩
  have c:iF line=(⟨1+a,ns⟩,0):=by rw[iF,h]
  refine⟨rfl,by simp,?_⟩;simp only[c,DK,av,ae,or_false,RN,F,H,I,J,N,S];simp
 ·rintro d e ⟨h,hd,y,rfl⟩
  have c:iF line=(⟨0,[]⟩,4):=by rw[iF,h]
  refine⟨rfl,by simp,by simp, .inr ⟨hd,fun x=> ?_⟩⟩;simp only[c,DK,av,ae,or_false,RN,F,H,I,J,N,S]
  rfl
end Go.Tel
namespace Go.Tel
open Go.Am
def agL:ByteArray:=⟨#[101,114,114,111,114,32]⟩
def aj3:ByteArray:=⟨#[110,111,116,101,100]⟩
def aaQ:ByteArray:=⟨#[110,111,116,104,105,110,103]⟩
def apy (n:Int):Bool:=decide (-9223372036854775808<=n)&&decide (n<=9223372036854775807)
def Dk.said (D:Dk)(line:ByteArray):Option (Dk×ByteArray):=
 if(fG line).2=0 then(if(D.enter (fG line).1).2=0 then some ((D.enter (fG line).1).1,aj3)else some ((D.enter (fG line).1).1,agL++tK (D.enter (fG line).1).2))
 else if(fG line).2=3 then some (D,agL++tK 3)
 else if(iF line).2=0 then
  (if(D.ask (iF line).1).2≠0 then some (D,agL++tK (D.ask (iF line).1).2)
  else if(D.ask (iF line).1).1=[]then some (D,aaQ)
  else if(D.ask (iF line).1).1.all apy&&decide ((D.ask (iF line).1).1.length<=1000)then some (D,Rw (D.ask (iF line).1).1)else none)
 else some (D,agL++tK (iF line).2)
def WH (D:Dk)(x:En):0<=(D.enter x).2/\(D.enter x).2<=7:=by
 unfold Dk.enter
 repeat' split
 all_goals simp
def aiV (d:Dvd)(n:Int):0<=(d.cuts n).2/\(d.cuts n).2<=7:=by
 unfold Dvd.cuts
 split
 ·split<;>simp
 ·simp
def Xn (line:ByteArray):0<=(iF line).2/\(iF line).2<=7:=by
 unfold iF;split<;>simp
def ahu (line:ByteArray):0<=(fG line).2/\(fG line).2<=7:=by
 unfold fG;split
 ·simp
 ·split<;>simp
def aie (p:Pc)(h:Int)(f:Fr)(n:Int):0<=(rG p h f n).2/\(rG p h f n).2<=7:=by
 unfold rG ad5
 repeat' split
 all_goals simp
def ZT (p:Pc)(a b h:Int)(f:Fr):0<=(p.changes a b h f).2/\(p.changes a b h f).2<=7:=by
 have pr:∀(l:List Chg) (n:Int),0<=n/\n<=7->0<=(l,n).2/\(l,n).2<=7:=fun _ _ h=>h
 unfold Pc.changes
 split
 ·split
  ·exact pr _ 0 (by decide)
  split
  ·exact pr _ 0 (by decide)
  split
  ·exact pr _ 0 (by decide)
  ·exact pr _ 5 (by decide)
 ·exact pr _ 2 (by decide)
def aj0 (D:Dk)(t:Sp)(a b c:Int):0<=(uU D t a b c).2/\(uU D t a b c).2<=7:=by
 unfold uU
 split
 ·split
  ·simp
  ·exact ZT _ _ _ _ _
 ·simp
def ail (r:List Int×Int):Prop:=0<=r.2/\r.2<=7
variable{c:Prop}
def nJ [Decidable c]{a b:List Int×Int}(d:ail a)(hb:ail b):ail (if c then a else b):=by
 by_cases h:c
 ·rw[if_pos h];exact d
 ·rw[if_neg h];exact hb
def yL (l:List Int){n:Int}(h:0<=n/\n<=7):ail (l,n):=h
def al2 [Decidable c]{a b:Int}(d:0<=a/\a<=7)(hb:0<=b/\b<=7):0<=(if c then a else b)/\(if c then a else b)<=7:=by
 by_cases h:c
 ·rw[if_pos h];exact d
 ·rw[if_neg h];exact hb
def RV (D:Dk)(t:Sp)(q:Qn):0<=(D.answer t q).2/\(D.answer t q).2<=7:=by
 refine(?_:ail (D.answer t q));unfold Dk.answer;refine nJ (yL _ (by decide)) ?_;refine nJ (yL _ (by decide)) ?_;refine nJ (yL _ (by decide)) ?_;refine nJ (yL _ (al2 (by decide) (by decide))) ?_;refine nJ (aj0 _ _ _ _ _) ?_;refine nJ (yL _ (al2 (aie _ _ _ _) (by decide))) ?_;refine nJ (yL _ (by decide)) ?_;refine nJ (yL _ (al2 ?_ (by decide))) ?_
 ·generalize vK _ _ _=o
  cases o with
  |none=>exact(by decide:(0:Int)<=5/\(5:Int)<=7)
  |some x=>exact(by decide:(0:Int)<=0/\(0:Int)<=7)
 refine nJ (yL _ (al2 (by decide) (by decide))) ?_;refine nJ (yL _ (aiV _ _)) ?_;exact nJ (yL _ (by decide)) (yL _ (by decide))
def ae4 (D:Dk)(q:Qn):0<=(D.ask q).2/\(D.ask q).2<=7:=by
 unfold Dk.ask
 split
 ·simp
 split
 ·simp
 split
 ·simp
 ·split
  ·exact RV _ _ _
  ·exact RV _ _ _
variable{D D':Dk}{line s:ByteArray}
def anC (a:D.Ok)(h:D.said line=some (D',s)):D'.Ok:=by
 unfold Dk.said at h
 repeat' split at h
 all_goals first|(cases h;done)|(cases h;first|exact aac a _|exact a)
def ahO (h:D.said line=some (D',s)):s.size<=30000:=by
 have e1:agL.size=6:=rfl;have e2:aj3.size=5:=rfl;have d:aaQ.size=7:=rfl;have a:∀n:Int,0<=n/\n<=7->(agL++tK n).size<=30000:=fun n c=>by
  have:=JU (n:=n) ⟨by omega,by omega⟩;rw[bz];omega
 unfold Dk.said at h
 split at h
 ·split at h
  ·cases h;omega
  ·cases h;exact a _ (WH _ _)
 split at h
 ·cases h;exact a 3 (by decide)
 split at h
 ·split at h
  ·cases h;exact a _ (ae4 _ _)
  split at h
  ·cases h;omega
  split at h
  ·rename_i b
   cases h;simp only[aL,b7,decide_eq_true_eq,apy]at b;have:=Yj (ns:=(D.ask (iF line).1).1) (fun n c=>b.1 n c);omega
  ·cases h
 ·cases h;exact a _ (Xn _)
def afZ {d:Nat}{ce cs:PV}{M:Mem}(h:oC D d ce cs M)(L:D.Ok){line s:ByteArray}(hl:line.size<=1000000)(hs:D.said line=some (D',s)){KP:DV->Mem->Prop}:
  SC C 117 [.ptr d 0, .d (.str line)] M (fun p M'=>p= .d (.str s)/\∃ce' cs',oC D' d ce' cs' M'/\FrD d ce cs ce' cs' M M'/\FzB M') KP:=by
 obtain⟨bs,fz,ar⟩:=M;have FX:∀i∈fz,i<bs.length:=h.fzb
 have K:bs.length∉fz:=fun e=>aw _ (FX _ e)
 have ac:∀k,bs.length+k∉fz:=fun k e=>by have:=FX _ e;omega
 have am:¬bs.length+1=bs.length:=by omega
 have O:=ahu line;have P:=Xn line;have g:∀n:Int,0<=n/\n<=7->I64 n:=fun n hn=>⟨by omega,by omega⟩
 have q:∀n:Int,0<=n/\n<=7->(tK n).size<=21:=fun n hn=>JU (g n hn)
 have e1:(⟨#[101,114,114,111,114,32]⟩:ByteArray).size=6:=rfl;refine aG mixed rfl zM ?_;simp only[oU,aJ,RN,F,H,I,J,N,S];refine ak rfl rfl (alF line) ?_;simp only[DK,aQ,aV,K,Y,RN,F,H,I,J,N,S];unfold Dk.said at hs
 by_cases B:(fG line).2=0
 ·rw[if_pos B]at hs
  have Q:((fG line).2==0)=true:=by simp[B]
  have hd:decide ((fG line).2≠0)=false:=by simp[B]
  have z:Frm ⟨bs,fz,ar⟩ ⟨bs++ [some [pI ((fG line).1.kind), .d (sF ((fG line).1.ns.map ay))]],bs.length::fz,ar⟩:=Frm.new (xf:=[bs.length]) (by simp);have G:=WH D (fG line).1;have hE:=Zw (h.frm z) L (fG line).1 (KP:=KP);rw[dM]at hE;simp only[Q,hd,RN,F,H,I,J,N,S];refine SC.jU (SC.mono hE ?_) (fun _ _ h=>h);rintro p ⟨W,X,V⟩ ⟨rfl,ce',cs',T,q2⟩;have b:=z.frD (d:=d) (ce:=ce) (cs:=cs)|>.trans q2
  by_cases t:(D.enter (fG line).1).2=0
  ·rw[if_pos t]at hs
   have u:((D.enter (fG line).1).2==0)=true:=by simp[t]
   cases hs;simp only[u,RN,F,H,I,J,N,S];exact⟨rfl,ce',cs',T,b,T.fzb⟩
  ·rw[if_neg t]at hs
   have u:((D.enter (fG line).1).2==0)=false:=by simp[t]
   have:=q _ G;cases hs;simp only[u,RN,F,H,I,J,N,S];refine ak rfl rfl (Jy (g _ G)) ?_;simp only[oD,Iq,RN,F,H,I,J,N,S];exact⟨by omega,rfl,ce',cs',T,b,T.fzb⟩
 rw[if_neg B]at hs;have Q:((fG line).2==0)=false:=by simp[B]
 have hd:decide ((fG line).2≠0)=true:=by simp[B]
 have z:∀x,Frm ⟨bs,fz,ar⟩ ⟨bs++ [x],bs.length::fz,ar⟩:=fun x=>Frm.new (xf:=[bs.length]) (by simp)
 by_cases E:(fG line).2=3
 ·rw[if_pos E]at hs
  have v:((fG line).2==3)=true:=by simp[E]
  have:=q _ O;rw[<-E]at hs;cases hs;simp only[Q,v,RN,F,H,I,J,N,S];refine ak rfl rfl (Jy (g _ O)) ?_;simp only[oD,Iq,RN,F,H,I,J,N,S];exact⟨by omega,rfl,ce,cs,h.frm (z _),(z _).frD,(z _).fzb h.fzb⟩
 rw[if_neg E]at hs;have v:((fG line).2==3)=false:=by simp[E]
 simp only[Q,v,RN,F,H,I,J,N,S];refine ak rfl rfl (aep line hl) ?_;simp only[DK,bQ,aQ,dh,aV,K,ac,am,bd,Y,bB,aD,RN,F,H,I,J,N,S];have j:∀x y,Frm ⟨bs,fz,ar⟩ ⟨bs++ [x,y],(bs.length+1)::bs.length::fz,ar⟩:=fun x y=>Frm.new (xf:=[bs.length+1,bs.length]) (by simp)
 by_cases A:(iF line).2=0
 case neg=>
  rw[if_neg A]at hs;have w:((iF line).2==0)=false:=by simp[A]
  have ai:((iF line).2 !=0)=true:=by simp[A]
  have:=q _ P;cases hs;simp only[w,ai,RN,F,H,I,J,N,S];refine ak rfl rfl (Jy (g _ P)) ?_;simp only[oD,Iq,RN,F,H,I,J,N,S];exact⟨by omega,rfl,ce,cs,h.frm (j _ _),(j _ _).frD,(j _ _).fzb h.fzb⟩
 rw[if_pos A]at hs;have w:((iF line).2==0)=true:=by simp[A]
 have ae:decide ((iF line).2≠0)=false:=by simp[A]
 have o:=ae4 D (iF line).1;have hA:=aii (h.frm (j (some [pI ((fG line).1.kind), .d (.slice (decide ((fG line).2≠0)) ((fG line).1.ns.map ay))]) (some [pI ((iF line).1.kind), .d (sF ((iF line).1.ns.map ay))]))) L (iF line).1 (KP:=KP);rw[afa]at hA;simp only[w,ae,RN,F,H,I,J,N,S];refine SC.jU (SC.mono hA ?_) (fun _ _ h=>h);rintro p ⟨W,X,V⟩ ⟨c,hp,R,an,q2⟩;have b:=(j _ _).trans q2;generalize D.ask (iF line).1=r at*;obtain⟨l,e⟩:=r;simp only at hs hp R o
 by_cases Z:e=0
 case neg=>
  rw[if_pos Z]at hs;have m:(e !=0)=true:=by simp[Z]
  have:=q _ o;cases hs
  rcases hp with rfl|⟨rfl,rfl⟩
  ·simp only[qc,qg,m,RN,F,H,I,J,N,S]
   refine ak rfl rfl (Jy (g _ o)) ?_;simp only[oD,Iq,RN,F,H,I,J,N,S];exact⟨by omega,rfl,ce,cs,h.frm b,b.frD,b.fzb h.fzb⟩
  ·simp only[m,RN,F,H,I,J,N,S]
   refine ak rfl rfl (Jy (g _ o)) ?_;simp only[oD,Iq,RN,F,H,I,J,N,S];exact⟨by omega,rfl,ce,cs,h.frm b,b.frD,b.fzb h.fzb⟩
 subst Z;have m:((0:Int) !=0)=false:=rfl;rw[if_neg (by simp)]at hs;have aqJ:(((0:Nat):Int)==0)=true:=rfl
 rcases hp with rfl|⟨rfl,rfl⟩
 case inr=>
  have f:l=[]:=by
   rcases R with⟨_,h1⟩|⟨k,ver,st,h1,_⟩
   ·exact bN.1 h1
   ·cases h1
  subst f;rw[if_pos rfl]at hs;cases hs;simp only[m,aqJ,RN,F,H,I,J,N,S];exact⟨rfl,ce,cs,h.frm b,b.frD,b.fzb h.fzb⟩
 simp only[qc,qg,m,Zj R,U,RN,F,H,I,J,N,S]
 by_cases f:l=[]
 ·rw[if_pos f]at hs
  cases hs;simp only[f,ao,aqJ,RN,F,H,I,J,N,S];exact⟨rfl,ce,cs,h.frm b,b.frD,b.fzb h.fzb⟩
 rw[if_neg f]at hs;have ab:((l.length:Int)==0)=false:=by cases l with|nil=>exact absurd rfl f|cons a l=>simp;omega
 split at hs
 case isFalse=>cases hs
 rename_i hk
 simp only[aL,b7,decide_eq_true_eq,apy]at hk;cases hs
 rcases R with⟨_,h1⟩|⟨k,ver,st,rfl,h1,_⟩
 ·exact absurd (bN.1 h1) f
 simp only[ab,RN,F,H,I,J,N,S];refine Rl h1 (by simpa only[aR]using ajL l hk.2 hk.1) rfl ?_;(try simp only[RN,F,H,I,J,N,S]);exact⟨ce,cs,h.frm b,b.frD,b.fzb h.fzb⟩
end Go.Tel
namespace Go.Am
section
variable {C:Ctx}{base:Nat}{M:Mem}{K:PV->Mem->Prop}{KP:DV->Mem->Prop}
variable{s:ByteArray}
def SK {k:IntKind}{n:Int}(a:0<=n)(h1:n<=s.size):au C base (.NJ false true) [.d (.str s), .d (.int k n)] M K KP=K (.d (.str (s.extract 0 n.toNat))) M:=by
 simp only[au,yB,eu,a7,bj];exact propext ⟨fun h=>h.2.2.2.2.2,fun h=>⟨trivial,trivial,cl _,a,h1,h⟩⟩
def SL {k:IntKind}{n:Int}(a:0<=n)(h1:n<=s.size):au C base (.NJ true false) [.d (.str s), .d (.int k n)] M K KP=K (.d (.str (s.extract n.toNat s.size))) M:=by
 simp only[au,yB,eu,a7,bj,aq];exact propext ⟨fun h=>h.2.2.2.2.2,fun h=>⟨trivial,trivial,a,h1,cl _,h⟩⟩
end
end Go.Am
namespace Go.Tel
open Go.Am
def Zy (s:ByteArray):Pure C 212 [.str s, .int .u8 10] (pI (Go.Lib.indexByte s.data.toList 10)) []:=by
 refine qQ fun X w a d f c=> ?_
 cases c with|cons h1 t1=>
 cases t1 with|cons b t2=>
 cases t2;cases h1;cases b;refine(Go.Proofs.Any.strings_IndexByte Go.Proofs.Tryz.laysIndexB s 10 w).mono ?_;rintro e g ⟨rfl,rfl⟩;exact⟨_,rfl,Later.refl _, .int _ _⟩
def FP (s:ByteArray):Bool:=decide (1<=s.size)&&((s.extract (s.size - 1) s.size).toList==(⟨#[10]⟩:ByteArray).toList)
def dL (s:ByteArray):ByteArray:=if FP s then s.extract 0 (s.size - 1)else s
def Zi:(⟨#[10]⟩:ByteArray).size=1:=rfl
variable{s:ByteArray}
def aan (hs:s.size<=1000000):Pure C 210 [.str s, .str ⟨#[10]⟩] (.d (.bool (FP s))) []:=by
 refine ah mixed rfl Bq ?_;have b:cB .i64 ((s.size:Int) - ((1:Nat):Int))=(s.size:Int) - 1:=by rw[aF (by omega)];omega
 unfold FP
 by_cases h:1<=s.size
 ·have a:decide (((1:Nat):Int)<=(s.size:Int))=true:=by simp;omega
  have hd:decide (1<=s.size)=true:=by simp[h]
  have c:(0:Int)<=(s.size:Int) - 1:=by omega
  have e:(s.size:Int) - 1<=(s.size:Int):=by omega
  have f:((s.size:Int) - 1).toNat=s.size - 1:=by omega
  simp only[kQ,aJ,Zi,a,hd,b,SL c e,f,oD,RJ,b0,RN,F,H,I,J,N,S]
 ·have a:decide (((1:Nat):Int)<=(s.size:Int))=false:=by simp;omega
  have hd:decide (1<=s.size)=false:=by simp[h]
  simp only[kQ,aJ,Zi,a,hd,bi,RN,F,H,I,J,N,S]
def ajs (hs:s.size<=1000000):Pure C 115 [.str s, .str ⟨#[10]⟩] (.d (.bool (FP s))) []:=by
 refine ah mixed rfl Gm ?_;simp only[wY,aJ,RN,F,H,I,J,N,S];refine ak rfl rfl (aan hs) ?_;(try simp only[RN,F,H,I,J,N,S])
def ah4 (hs:s.size<=1000000):Pure C 215 [.str s, .str ⟨#[10]⟩] (.d (.str (dL s))) []:=by
 refine ah mixed rfl zX ?_;simp only[pF,aJ,RN,F,H,I,J,N,S];refine ak rfl rfl (aan hs) ?_;have a:cB .i64 ((s.size:Int) - ((1:Nat):Int))=(s.size:Int) - 1:=by rw[aF (by omega)];omega
 unfold dL;cases h:FP s
 ·(try simp only[RN,F,H,I,J,N,S])
  simp
 ·have:1<=s.size:=by unfold FP at h;simp only[aL,decide_eq_true_eq]at h;exact h.1
  have b:(0:Int)<=(s.size:Int) - 1:=by omega
  have c:(s.size:Int) - 1<=(s.size:Int):=by omega
  have e:((s.size:Int) - 1).toNat=s.size - 1:=by omega
  simp only[Zi,a,SK b c,e,RN,F,H,I,J,N,S];simp
def ah3 (hs:s.size<=1000000):Pure C 118 [.str s, .str ⟨#[10]⟩] (.d (.str (dL s))) []:=by
 refine ah mixed rfl FD ?_;simp only[vG,aJ,RN,F,H,I,J,N,S];refine ak rfl rfl (ah4 hs) ?_;(try simp only[RN,F,H,I,J,N,S])
def yQ:List UInt8->List (List UInt8)
 | []=>[]
 |b::l=>if b==10 then[b]::yQ l else match yQ l with| []=>[[b]]|x::a=>(b::x)::a
def TG:∀(l:List UInt8),(Go.Lib.indexByte l 10= -1/\(l=[]\/yQ l=[l]))\/∃i:Nat,Go.Lib.indexByte l 10=(i:Int)/\i<l.length/\yQ l=l.take (i+1)::yQ (l.drop (i+1))
 | []=> .inl ⟨rfl, .inl rfl⟩
 |b::l=>by
  rw[Go.Lib.indexByte,yQ]
  by_cases a:(b==10)=true
  ·rw[if_pos a,if_pos a]
   exact .inr ⟨0,rfl,by simp,rfl⟩
  rw[if_neg a,if_neg a]
  rcases TG l with⟨h1,h2⟩|⟨i,h1,h2,c⟩
  ·refine .inl ⟨by simp[h1], .inr ?_⟩
   rcases h2 with rfl|h2
   ·rfl
   ·rw[h2]
  ·refine .inr ⟨i+1,?_,by simpa using h2,by rw[c];simp⟩
   rw[if_neg (by rw[h1];simp),h1];omega
def jw (s:ByteArray):List ByteArray:=(yQ s.data.toList).map fun l=>⟨l.toArray⟩
def ru (s:ByteArray):List DV:=[.str s]
def adP (s:ByteArray)(hs:0<s.size):(Go.Lib.indexByte s.data.toList 10= -1/\jw s=[s])\/∃i:Nat,Go.Lib.indexByte s.data.toList 10=(i:Int)/\i<s.size/\jw s=s.extract 0 (i+1)::jw (s.extract (i+1) s.size):=by
 have a:s.data.toList.length=s.size:=bh
 rcases TG s.data.toList with⟨h1,h2⟩|⟨i,h1,h2,b⟩
 ·refine .inl ⟨h1,?_⟩
  rcases h2 with h2|h2
  ·rw[h2]at a;simp at a;omega
  ·unfold jw;rw[h2];simp
 ·refine .inr ⟨i,h1,by omega,?_⟩
  unfold jw;rw[b,aE];have e1:(s.extract 0 (i+1)).data.toList=s.data.toList.take (i+1):=by simp[b8]
  have e2:(s.extract (i+1) s.size).data.toList=s.data.toList.drop (i+1):=by
   simp only[b8,Array.toList_extract,List.extract_eq_take_drop,<-a];rw[b9 (by simp)]
  rw[e2,<-e1]
def aoi (s:ByteArray)(c:Nat)(M:Mem):Prop:=M.boxes[c]?=some (some [.d (.str s)])/\c∉M.fz
def acC (s:ByteArray)(c:Nat)(hs:s.size<=1000000):Wp C 211 [] [.ptr c 0] ((jw s).map ru) (·=c) (·=c) no (aoi s c):=by
 rintro⟨bs,fz,ar⟩ b n R stop K KP ab ac hn B Q P lK y g A;simp only at hn B;obtain⟨hc,z⟩:=Q;simp only at hc z;refine aG mixed rfl Ku ?_;simp only[zo,jq,RN,F,H,I,J,N,S];refine zu (fun m st=>∃(t:ByteArray) (a:List (List DV)) (x:Mem) (Y:List (Nat×PV)),m=t.size/\t.size<=s.size/\st=⟨(0, .oP b)::(1, .ptr c 0)::Y,x⟩/\n<=x.boxes.length/\FzB x/\aoi t c x/\(jw s).map ru=a++(jw t).map ru/\R a x)
  s.size ⟨s,[],_,[],rfl,bc _,rfl,hn,B,⟨hc,z⟩,rfl,y⟩ ?_
 rintro m st ⟨t,a,⟨j,r,q⟩,Y,rfl,ht,rfl,u,D,⟨f,amu⟩,k,hR⟩;simp only at u f amu;have e:c<j.length:=(V.1 f).1
 by_cases y:0<t.size
 case neg=>
  have L:decide ((t.size:Int)>0)=false:=decide_eq_false (by omega);simp only[f,e,L,RN,F,H,I,J,N,S];refine A _ _ u ?_;have:t.data.toList=[]:=List.length_eq_zero_iff.1 (by have:t.data.toList.length=t.size:=bh;omega);have e0:jw t=[]:=by unfold jw;rw[this];rfl
  rw[k,e0,bl,bp];exact hR
 have L:decide ((t.size:Int)>0)=true:=decide_eq_true (by omega);have afh:∀(l o:ByteArray),jw t=l::jw o->o.size<t.size->SY C b [.d (.str l)] ⟨j.set c (some [.d (.str o)]),r,q⟩
   (fun p w=>n<=w.boxes.length/\FzB w/\aoi o c w/\((p= .d (.bool true)/\(jw s).map ru=(a++ [ru l])++(jw o).map ru/\R (a++ [ru l]) w)\/(p= .d (.bool false)/\stop w))) KP:=by
  intro l o hl ae;have arS:Moved n (·=c) ⟨j,r,q⟩ ⟨j.set c (some [.d (.str o)]),r,q⟩:=Moved.set (.inr rfl);have an5:(jw s).map ru=a++ru l::(jw o).map ru:=by rw[k,hl];rfl
  refine SY.mono (lK a (ru l) _ _ an5 (by simpa using u) (P a _ _ arS hR)) ?_;rintro p E ⟨G,hp⟩;have O:=G.len;simp only[aD]at O;refine⟨by omega,G.fzb D.set,⟨?_,?_⟩,?_⟩
  ·rw[G.box c (.inr rfl) (by simpa using e)];simp[e]
  ·exact fun h=>amu ((G.fz c (.inr rfl) (by simpa using e)).1 h)
  ·rcases hp with⟨rfl,h⟩|h
   ·exact .inl ⟨rfl,by rw[an5,bd];rfl,h⟩
   ·exact .inr h
 simp only[f,e,L,RN,F,H,I,J,N,S];refine ak rfl rfl (Zy t) ?_
 rcases adP t y with⟨Z,g2⟩|⟨i,Z,g2,g3⟩
 ·have M:decide (Go.Lib.indexByte t.data.toList 10>=0)=false:=decide_eq_false (by omega)
  simp only[f,e,M,amu,RN,F,H,I,J,N,S];refine BI ?_;refine SY.mono (afh t ⟨#[]⟩ (by rw[g2];rfl) y) ?_;rintro p E ⟨T,U,W,⟨rfl,v,X⟩|⟨rfl,v⟩⟩
  ·(try simp only[RN,F,H,I,J,N,S])
   exact⟨0,_,y, .inl rfl,⟨#[]⟩,_,E,_,rfl,az _,rfl,T,U,W,v,X⟩
  ·(try simp only[RN,F,H,I,J,N,S])
   exact g _ _ v
 ·have M:decide ((i:Int)>=0)=true:=decide_eq_true (by omega)
  have w1:cB .i64 ((i:Int)+1)=(i:Int)+1:=by rw[aF (by omega)]
  have x1:(0:Int)<=(i:Int)+1:=by omega
  have x2:(i:Int)+1<=(t.size:Int):=by omega
  have x3:((i:Int)+1).toNat=i+1:=by omega
  have x4:(t.extract (i+1) t.size).size<t.size:=by simp;omega
  rw[Z];simp only[f,e,M,amu,w1,SK x1 x2,SL x1 x2,x3,RN,F,H,I,J,N,S];refine BI ?_;refine SY.mono (afh _ _ g3 x4) ?_;rintro p E ⟨T,U,W,⟨rfl,v,X⟩|⟨rfl,v⟩⟩
  ·(try simp only[RN,F,H,I,J,N,S])
   exact⟨_,_,x4, .inl rfl,_,_,E,_,rfl,by omega,rfl,T,U,W,v,X⟩
  ·(try simp only[RN,F,H,I,J,N,S])
   exact g _ _ v
def ain (s:ByteArray){bs:List (Option (List PV))}{fz:List Nat}{ar:List (Option Arr)}{KP:DV->Mem->Prop}:
  SC C 116 [.d (.str s)] ⟨bs,fz,ar⟩ (fun p M'=>p= .func (.func 211) [] [.ptr bs.length 0]/\M'=⟨bs++ [some [.d (.str s)]],fz,ar⟩) KP:=by
 refine aG mixed rfl OB ?_;simp only[CQ,aK,aQ,aV,lU,RN,F,H,I,J,N,S]
end Go.Tel
namespace Go.Tel
open Go.Am
def nlB:ByteArray:=⟨#[10]⟩
def Aa:Dk->List ByteArray->ByteArray->Option (Dk×ByteArray)
 |D,[],out=>some (D,out)
 |D,l::a,out=>match D.said (dL l)with|none=>none|some q=>Aa q.1 a (out++(q.2++nlB))
def N7:∀(l1 l2:List ByteArray) (D:Dk) (out:ByteArray),Aa D (l1++l2) out=match Aa D l1 out with|none=>none|some q=>Aa q.1 l2 q.2
 | [],l2,D,out=>rfl
 |l::a,l2,D,out=>by
  rw[List.cons_append,Aa,Aa];cases D.said (dL l)with
  |none=>rfl
  |some q=>exact N7 a l2 _ _
def FrD.kept {d n c:Nat}{ce cs ce' cs':PV}{M M':Mem}(h:FrD d ce cs ce' cs' M M')(hf:FzB M->FzB M')(hd:d<n)(hc:d≠c):Kept n (·=c) no M M':=
 ⟨h.len,h.bH,fun i a b=>h.box i b (fun e=>a.elim (fun a=>by omega) fun a=>hc (by rw[<-e];exact a)),fun i _ b=>h.fz i b,fun _ h=>h.elim,hf⟩
def adQ (s:ByteArray):(jw s).length<=s.size:=by
 have:∀l:List UInt8,(yQ l).length<=l.length:=by
  intro l
  induction l with
  |nil=>exact bc _
  |cons b l a=>
   rw[yQ]
   split
   ·simpa using a
   ·split
    ·simp
    ·rename_i h;rw[h]at a;simp at a⊢;omega
 unfold jw;rw[U];have h1:=this s.data.toList;have:s.data.toList.length=s.size:=bh;omega
def DL:∀(l:List UInt8) (x:List UInt8),x∈yQ l->x.length<=l.length
 | [],x,h=>by cases h
 |b::l,x,h=>by
  rw[yQ]at h
  split at h
  ·rcases av.1 h with rfl|h
   ·simp
   ·have:=DL l x h;simp;omega
  ·split at h
   ·simp at h;subst h;simp
   ·rename_i y c a
    rcases av.1 h with rfl|h
    ·have:=DL l y (by rw[a];simp);simp;omega
    ·have:=DL l x (by rw[a];simp[h]);simp;omega
def adR {s x:ByteArray}(h:x∈jw s):x.size<=s.size:=by
 simp only[jw,bo]at h;obtain⟨l,a,rfl⟩:=h;have:=DL _ _ a;have e:s.data.toList.length=s.size:=bh;simp only[cp,cj]at e⊢;rw[<-e];exact this
def ZV (s:ByteArray):(dL s).size<=s.size:=by
 unfold dL
 split
 ·simp
 ·exact bc _
def alE (s:Su)(a:ByteArray)(pre:List (List DV))(b:Mem):Prop:=
 ∃c f D e cs o,jw a=c++f/\pre=c.map ru/\Aa ⟨s,[],[]⟩ c ⟨#[]⟩=some (D,o)/\oC D 4 e cs b/\D.Ok/\b.boxes[1]?=some (some [.ptr 4 0])/\b.boxes[5]?=some (some [.d (.str o)])/\5∉b.fz/\o.size<=30001*c.length
def alE.moved {s:Su}{a:ByteArray}{pre:List (List DV)}{d f:Mem}{n:Nat}(h:alE s a pre d)(t:6<=n)(b:Moved n (·=6) d f):alE s a pre f:=by
 obtain⟨q,r,D,g,cs,o,h1,h2,i,c,j,k,l,m,p⟩:=h;refine⟨q,r,D,g,cs,o,h1,h2,i,?_,j,(b.box 1 (by omega) (by simp)).trans k,(b.box 5 (by omega) (by simp)).trans l,fun e=>m ((b.fz 5 (by omega) (by simp)).1 e),p⟩;exact⟨⟨(b.box 4 (by omega) (by simp)).trans c.box,by rw[b.aB];exact c.ent,by rw[b.aB];exact c.str⟩,c.dif,fun e=>c.nb ((b.fz 4 (by omega) (by simp)).1 e),b.fzb c.fzb⟩
def afU (s:Su)(hs:s.Small)(M:s.ok=true){a out:ByteArray}(hl:a.size<=1500)(K:(a.toList==(⟨#[]⟩:ByteArray).toList||FP a)=true){D':Dk}(b:Aa ⟨s,[],[]⟩ (jw a) ⟨#[]⟩=some (D',out)):
  Pure C 40 [s.dv, .str a] (.d (.tup [.str out,dI 0])) []:=by
 refine ah mixed rfl Fq ?_;rw[gU];simp only[vg,dY,RN,F,H,I,J,N,S];have hO:=fun X KP=>ae0 s hs [X,none] [0] [] KP (by simp)
 rw[gU]at hO;refine SC.jU (SC.mono (hO _ (fun _ _=>False)) ?_) (fun _ _ h=>h);rintro p M' (⟨h,_⟩|⟨_,rfl,x1,x2,rfl⟩)
 ·rw[M]at h;cases h
 have z1:((0:Int) !=0)=false:=rfl;have z2:decide ((a.size:Int)>1500)=false:=decide_eq_false (by omega);simp only[qc,qg,lu,z1,z2,oD,Zm,mD,wu,RN,F,H,I,J,N,S];have arV:(a.toList==(⟨#[]⟩:ByteArray).toList)=false->FP a=true:=fun h=>by rw[h]at K;exact K
 cases t:(a.toList==(⟨#[]⟩:ByteArray).toList)
 all_goals first
  |(simp only[t,RN,F,H,I,J,N,S];refine ak rfl rfl (ajs (by omega)) ?_;rw[arV t])
  |skip
 all_goals simp only[t,lu,RN,F,H,I,J,N,S]
 all_goals refine SC.jU (SC.mono (ain a (KP:=fun _ _=>False)) ?_) (fun _ _ h=>h)
 all_goals rintro p M' ⟨rfl,rfl⟩
 all_goals(try simp only[RN,F,H,I,J,N,S])
 all_goals(
  refine rD (acC a 6 (by omega)) (fun _ h=>h) rfl (by kernel_rfl) (fun i B=>by simp at B;simp;omega) (fun x u=>by obtain⟨y,_,rfl⟩:=bo.1 u;rfl) (fun i B=>by subst B;simp) (fun M' U=>⟨(U.box 6 (by simp) id).trans rfl,fun e=>by have:=(U.fz 6 (by simp) id).1 e;simp at this⟩)
   (alE s a) (fun ax M1 M2 U h=>h.moved (by simp) U) ⟨[],jw a,⟨s,[],[]⟩,_,_,_,rfl,rfl,rfl,⟨⟨rfl, .inl ⟨rfl,rfl⟩, .inl ⟨rfl,rfl⟩⟩,(by intro k hk;cases hk),by simp,by intro i B;simp at B;simp;omega⟩,⟨M,rfl,az _,fun x h=>(by cases h),fun x h=>(by cases h)⟩,rfl,rfl,by simp,az _⟩ ?_ ?_
  ·rintro L cells ax x aD ⟨j,ae,Z⟩ u r l G ⟨ls,V,D,ce,cs,o,h1,h2,R,h4,h5,z,n,T,h9⟩ M0
   simp only[am,ao]at r l G z n T⊢;obtain⟨y,g,rfl,rfl⟩:∃y g,V=y::g/\x=ru y:=by
    rw[h1,h2,bt]at u;have u:=bw u;cases V with
    |nil=>cases u
    |cons y g=>exact⟨y,g,rfl,(List.cons.inj u).1.symm⟩
   rw[h1,N7,R]at b;simp only[Aa]at b;cases f:D.said (dL y)with
   |none=>rw[f]at b;cases b
   |some q=>
   obtain⟨D2,W⟩:=q;have hy:y.size<=a.size:=adR (by rw[h1];simp);have E:=adQ a;rw[h1]at E;simp only[Y,am]at E;have aR:=ZV y;have aM:=ahO f;have c:5<j.length:=by omega
   have w:1<j.length:=by omega
   simp only[ru,bO,bX,aE,bl,z,n,c,w,RN,F,H,I,J,N,S];refine ak rfl rfl (ah3 (by omega)) ?_;(try simp only[RN,F,H,I,J,N,S]);refine alQ n (by simp) ?_;refine SC.jU (SC.mono (afZ h4 h5 (by omega) f (KP:=fun _ _=>False)) ?_) (fun _ _ h=>h.elim);rintro p ⟨v,ap,aL⟩ ⟨rfl,ab,ac,Q,m,q3⟩;have aq:v[5]?=some (some [.d (.str o)]):=(m.box 5 c (by decide)).trans n;have av:=m.len;simp only at av;have aqk:5<v.length:=by omega
   have A:¬5∈ap:=fun e=>T ((m.fz 5 c).1 e)
   refine⟨m.box 5 c (by decide),?_⟩;have O:W.size+nlB.size<=9223372036854775807:=by have:nlB.size=1:=rfl;omega
   have P:o.size+(W++nlB).size<=9223372036854775807:=by have:nlB.size=1:=rfl;rw[bz];omega
   rw[nlB]at O P;simp only[oD,Iq,O,P,aq,aqk,A,wz,RN,F,H,I,J,N,S];refine⟨by rw[ai (by decide)];exact(m.box 7 (by simp only;omega) (by decide)).trans l,fun e=>G ((m.fz 7 (by simp only;omega)).1 e),(FrD.kept m (fun _=>q3) (by decide) (by decide)).set2 (by decide) (by decide),ls++ [y],g,D2,ab,ac,o++(W++nlB),by rw[h1];simp,by rw[h2];simp[ru],?_,
    ⟨⟨by simp only;rw[ai (by decide)];exact Q.box,Q.ent,Q.str⟩,Q.dif,Q.nb,q3.set⟩,anC h5 f,?_,by simp[aqk];rfl,A,?_⟩
   ·rw[N7,R]
    simp only[Aa,f]
   ·simp only;rw[ai (by decide)];exact(m.box 1 w (by decide)).trans z
   ·have:nlB.size=1:=rfl
    simp only[bz,Y,am,ao];omega
  ·rintro⟨j,ae,Z⟩ ⟨ls,V,D,ce,cs,o,h1,h2,R,h4,h5,z,n,T,h9⟩ r
   simp only[am,ao]at r z n T;have aw:V=[]:=by
    have:=congrArg bq h2;rw[h1]at this;simp at this;exact this
   subst aw;rw[h1,bp,R]at b;cases b;have c:5<j.length:=by omega
   simp only[n,c,RN,F,H,I,J,N,S])
def aU:Su:=⟨⟨[⟨0,⟨10,20⟩⟩,⟨1,⟨12,18⟩⟩,⟨1,⟨15,10⟩⟩],[2,3]⟩,[⟨1,3⟩,⟨1499,2000⟩],100,⟨40,[15,21,27]⟩,⟨0,[4]⟩,⟨59,2,0⟩,[⟨true,0,0,0⟩,⟨false,1,6,0⟩],1,3,6,4,10⟩
def Zf:ByteArray:=⟨#[104,97,110,100,115,10,111,114,100,101,114,32,48,32,50,32,53,10,111,114,100,101,114,32,48,32,49,32,50,10,110,101,101,100,32,48,32,49,48,32,50,48,10,110,101,101,100,32,49,32,49,48,32,50,48,10,99,104,97,110,103,101,32,49,32,49,50,32,49,53,10,99,117,116,32,51,55,10,99,117,116,32,49,53,10,115,116,111,99,107,10,99,104,97,110,103,101,32,49,32,49,50,32,49,53,10,115,116,111,99,107,10,112,114,105,99,101,32,48,10,115,101,114,118,101,32,48,32,53,54,10,115,101,114,118,101,32,48,32,53,55,10,111,112,101,110,10,99,111,105,110,115,10,111,102,102,32,49,32,57,10,111,102,102,32,49,32,49,48,10,119,114,111,110,103,10,115,101,116,32,54,10,115,101,116,32,57,10,115,101,116,32,56,10,115,101,116,32,56,10,119,111,114,107,115,32,57,10,100,97,116,101,32,52,48,10,119,114,111,110,103,10,99,117,116,115,32,51,54,10,115,116,114,105,107,101,32,49,10,115,116,114,105,107,101,32,52,10,115,116,114,105,107,101,32,51,10,99,111,105,110,115,10,111,112,101,110,10,115,116,97,110,100,115,10,115,116,114,105,107,101,32,48,10,115,116,114,105,107,101,32,57,10,115,101,114,118,101,32,48,10]⟩
def KT:ByteArray:=⟨#[49,32,51,32,51,32,52,10,110,111,116,101,100,10,101,114,114,111,114,32,55,10,49,32,49,50,32,49,53,10,101,114,114,111,114,32,55,10,101,114,114,111,114,32,55,10,101,114,114,111,114,32,55,10,110,111,116,101,100,10,49,53,10,110,111,116,101,100,10,49,56,10,53,55,10,101,114,114,111,114,32,55,10,110,111,116,101,100,10,110,111,116,104,105,110,103,10,53,55,10,57,55,10,49,48,56,10,51,53,54,10,101,114,114,111,114,32,55,10,101,114,114,111,114,32,55,10,110,111,116,101,100,10,101,114,114,111,114,32,55,10,49,48,10,50,32,57,10,51,52,56,10,50,32,49,32,51,10,101,114,114,111,114,32,55,10,110,111,116,101,100,10,110,111,116,101,100,10,48,10,48,32,50,32,53,10,48,32,49,32,50,10,101,114,114,111,114,32,55,10,101,114,114,111,114,32,50,10,101,114,114,111,114,32,52,10]⟩
def bf {D D':Dk}{l a out:ByteArray}{ls:List ByteArray}{r:Option (Dk×ByteArray)}(h:D.said (dL l)=some (D',a))(b:Aa D' ls (out++(a++nlB))=r):Aa D (l::ls) out=r:=by
 rw[Aa,h];exact b
def amM:jw Zf=[⟨#[104,97,110,100,115,10]⟩,⟨#[111,114,100,101,114,32,48,32,50,32,53,10]⟩,⟨#[111,114,100,101,114,32,48,32,49,32,50,10]⟩,⟨#[110,101,101,100,32,48,32,49,48,32,50,48,10]⟩,⟨#[110,101,101,100,32,49,32,49,48,32,50,48,10]⟩,⟨#[99,104,97,110,103,101,32,49,32,49,50,32,49,53,10]⟩,⟨#[99,117,116,32,51,55,10]⟩,⟨#[99,117,116,32,49,53,10]⟩,⟨#[115,116,111,99,107,10]⟩,⟨#[99,104,97,110,103,101,32,49,32,49,50,32,49,53,10]⟩,⟨#[115,116,111,99,107,10]⟩,⟨#[112,114,105,99,101,32,48,10]⟩,⟨#[115,101,114,118,101,32,48,32,53,54,10]⟩,⟨#[115,101,114,118,101,32,48,32,53,55,10]⟩,⟨#[111,112,101,110,10]⟩,⟨#[99,111,105,110,115,10]⟩,⟨#[111,102,102,32,49,32,57,10]⟩,⟨#[111,102,102,32,49,32,49,48,10]⟩,⟨#[119,114,111,110,103,10]⟩,⟨#[115,101,116,32,54,10]⟩,⟨#[115,101,116,32,57,10]⟩,⟨#[115,101,116,32,56,10]⟩,⟨#[115,101,116,32,56,10]⟩,⟨#[119,111,114,107,115,32,57,10]⟩,⟨#[100,97,116,101,32,52,48,10]⟩,⟨#[119,114,111,110,103,10]⟩,⟨#[99,117,116,115,32,51,54,10]⟩,⟨#[115,116,114,105,107,101,32,49,10]⟩,⟨#[115,116,114,105,107,101,32,52,10]⟩,⟨#[115,116,114,105,107,101,32,51,10]⟩,⟨#[99,111,105,110,115,10]⟩,⟨#[111,112,101,110,10]⟩,⟨#[115,116,97,110,100,115,10]⟩,⟨#[115,116,114,105,107,101,32,48,10]⟩,⟨#[115,116,114,105,107,101,32,57,10]⟩,⟨#[115,101,114,118,101,32,48,10]⟩]:=by kernel_rfl
def k_1:Dk.said ⟨aU,[],[]⟩ (dL ⟨#[104,97,110,100,115,10]⟩)=some (⟨aU,[],[]⟩,⟨#[49,32,51,32,51,32,52]⟩):=by kernel_rfl
def k_2:Dk.said ⟨aU,[],[]⟩ (dL ⟨#[111,114,100,101,114,32,48,32,50,32,53,10]⟩)=some (⟨aU,[⟨3,[0,2,5]⟩],[false]⟩,⟨#[110,111,116,101,100]⟩):=by kernel_rfl
def k_3:Dk.said ⟨aU,[⟨3,[0,2,5]⟩],[false]⟩ (dL ⟨#[111,114,100,101,114,32,48,32,49,32,50,10]⟩)=some (⟨aU,[⟨3,[0,2,5]⟩],[false]⟩,⟨#[101,114,114,111,114,32,55]⟩):=by kernel_rfl
def k_4:Dk.said ⟨aU,[⟨3,[0,2,5]⟩],[false]⟩ (dL ⟨#[110,101,101,100,32,48,32,49,48,32,50,48,10]⟩)=some (⟨aU,[⟨3,[0,2,5]⟩],[false]⟩,⟨#[49,32,49,50,32,49,53]⟩):=by kernel_rfl
def k_5:Dk.said ⟨aU,[⟨3,[0,2,5]⟩],[false]⟩ (dL ⟨#[110,101,101,100,32,49,32,49,48,32,50,48,10]⟩)=some (⟨aU,[⟨3,[0,2,5]⟩],[false]⟩,⟨#[101,114,114,111,114,32,55]⟩):=by kernel_rfl
def k_6:Dk.said ⟨aU,[⟨3,[0,2,5]⟩],[false]⟩ (dL ⟨#[99,104,97,110,103,101,32,49,32,49,50,32,49,53,10]⟩)=some (⟨aU,[⟨3,[0,2,5]⟩],[false]⟩,⟨#[101,114,114,111,114,32,55]⟩):=by kernel_rfl
def k_7:Dk.said ⟨aU,[⟨3,[0,2,5]⟩],[false]⟩ (dL ⟨#[99,117,116,32,51,55,10]⟩)=some (⟨aU,[⟨3,[0,2,5]⟩],[false]⟩,⟨#[101,114,114,111,114,32,55]⟩):=by kernel_rfl
def k_8:Dk.said ⟨aU,[⟨3,[0,2,5]⟩],[false]⟩ (dL ⟨#[99,117,116,32,49,53,10]⟩)=some (⟨aU,[⟨3,[0,2,5]⟩,⟨1,[15]⟩],[false,false]⟩,⟨#[110,111,116,101,100]⟩):=by kernel_rfl
def k_9:Dk.said ⟨aU,[⟨3,[0,2,5]⟩,⟨1,[15]⟩],[false,false]⟩ (dL ⟨#[115,116,111,99,107,10]⟩)=some (⟨aU,[⟨3,[0,2,5]⟩,⟨1,[15]⟩],[false,false]⟩,⟨#[49,53]⟩):=by kernel_rfl
def asb:Dk.said ⟨aU,[⟨3,[0,2,5]⟩,⟨1,[15]⟩],[false,false]⟩ (dL ⟨#[99,104,97,110,103,101,32,49,32,49,50,32,49,53,10]⟩)=some (⟨aU,[⟨3,[0,2,5]⟩,⟨1,[15]⟩,⟨2,[1,12,15]⟩],[false,false,false]⟩,⟨#[110,111,116,101,100]⟩):=by kernel_rfl
def asc:Dk.said ⟨aU,[⟨3,[0,2,5]⟩,⟨1,[15]⟩,⟨2,[1,12,15]⟩],[false,false,false]⟩ (dL ⟨#[115,116,111,99,107,10]⟩)=some (⟨aU,[⟨3,[0,2,5]⟩,⟨1,[15]⟩,⟨2,[1,12,15]⟩],[false,false,false]⟩,⟨#[49,56]⟩):=by kernel_rfl
def ase:Dk.said ⟨aU,[⟨3,[0,2,5]⟩,⟨1,[15]⟩,⟨2,[1,12,15]⟩],[false,false,false]⟩ (dL ⟨#[112,114,105,99,101,32,48,10]⟩)=some (⟨aU,[⟨3,[0,2,5]⟩,⟨1,[15]⟩,⟨2,[1,12,15]⟩],[false,false,false]⟩,⟨#[53,55]⟩):=by kernel_rfl
def asf:Dk.said ⟨aU,[⟨3,[0,2,5]⟩,⟨1,[15]⟩,⟨2,[1,12,15]⟩],[false,false,false]⟩ (dL ⟨#[115,101,114,118,101,32,48,32,53,54,10]⟩)=some (⟨aU,[⟨3,[0,2,5]⟩,⟨1,[15]⟩,⟨2,[1,12,15]⟩],[false,false,false]⟩,⟨#[101,114,114,111,114,32,55]⟩):=by kernel_rfl
def ash:Dk.said ⟨aU,[⟨3,[0,2,5]⟩,⟨1,[15]⟩,⟨2,[1,12,15]⟩],[false,false,false]⟩ (dL ⟨#[115,101,114,118,101,32,48,32,53,55,10]⟩)=some (⟨aU,[⟨3,[0,2,5]⟩,⟨1,[15]⟩,⟨2,[1,12,15]⟩,⟨4,[0,57]⟩],[false,false,false,false]⟩,⟨#[110,111,116,101,100]⟩):=by kernel_rfl
def asi:Dk.said ⟨aU,[⟨3,[0,2,5]⟩,⟨1,[15]⟩,⟨2,[1,12,15]⟩,⟨4,[0,57]⟩],[false,false,false,false]⟩ (dL ⟨#[111,112,101,110,10]⟩)=some (⟨aU,[⟨3,[0,2,5]⟩,⟨1,[15]⟩,⟨2,[1,12,15]⟩,⟨4,[0,57]⟩],[false,false,false,false]⟩,⟨#[110,111,116,104,105,110,103]⟩):=by kernel_rfl
def asj:Dk.said ⟨aU,[⟨3,[0,2,5]⟩,⟨1,[15]⟩,⟨2,[1,12,15]⟩,⟨4,[0,57]⟩],[false,false,false,false]⟩ (dL ⟨#[99,111,105,110,115,10]⟩)=some (⟨aU,[⟨3,[0,2,5]⟩,⟨1,[15]⟩,⟨2,[1,12,15]⟩,⟨4,[0,57]⟩],[false,false,false,false]⟩,⟨#[53,55]⟩):=by kernel_rfl
def asl:Dk.said ⟨aU,[⟨3,[0,2,5]⟩,⟨1,[15]⟩,⟨2,[1,12,15]⟩,⟨4,[0,57]⟩],[false,false,false,false]⟩ (dL ⟨#[111,102,102,32,49,32,57,10]⟩)=some (⟨aU,[⟨3,[0,2,5]⟩,⟨1,[15]⟩,⟨2,[1,12,15]⟩,⟨4,[0,57]⟩],[false,false,false,false]⟩,⟨#[57,55]⟩):=by kernel_rfl
def asn:Dk.said ⟨aU,[⟨3,[0,2,5]⟩,⟨1,[15]⟩,⟨2,[1,12,15]⟩,⟨4,[0,57]⟩],[false,false,false,false]⟩ (dL ⟨#[111,102,102,32,49,32,49,48,10]⟩)=some (⟨aU,[⟨3,[0,2,5]⟩,⟨1,[15]⟩,⟨2,[1,12,15]⟩,⟨4,[0,57]⟩],[false,false,false,false]⟩,⟨#[49,48,56]⟩):=by kernel_rfl
def aso:Dk.said ⟨aU,[⟨3,[0,2,5]⟩,⟨1,[15]⟩,⟨2,[1,12,15]⟩,⟨4,[0,57]⟩],[false,false,false,false]⟩ (dL ⟨#[119,114,111,110,103,10]⟩)=some (⟨aU,[⟨3,[0,2,5]⟩,⟨1,[15]⟩,⟨2,[1,12,15]⟩,⟨4,[0,57]⟩],[false,false,false,false]⟩,⟨#[51,53,54]⟩):=by kernel_rfl
def asq:Dk.said ⟨aU,[⟨3,[0,2,5]⟩,⟨1,[15]⟩,⟨2,[1,12,15]⟩,⟨4,[0,57]⟩],[false,false,false,false]⟩ (dL ⟨#[115,101,116,32,54,10]⟩)=some (⟨aU,[⟨3,[0,2,5]⟩,⟨1,[15]⟩,⟨2,[1,12,15]⟩,⟨4,[0,57]⟩],[false,false,false,false]⟩,⟨#[101,114,114,111,114,32,55]⟩):=by kernel_rfl
def asr:Dk.said ⟨aU,[⟨3,[0,2,5]⟩,⟨1,[15]⟩,⟨2,[1,12,15]⟩,⟨4,[0,57]⟩],[false,false,false,false]⟩ (dL ⟨#[115,101,116,32,57,10]⟩)=some (⟨aU,[⟨3,[0,2,5]⟩,⟨1,[15]⟩,⟨2,[1,12,15]⟩,⟨4,[0,57]⟩],[false,false,false,false]⟩,⟨#[101,114,114,111,114,32,55]⟩):=by kernel_rfl
def asu:Dk.said ⟨aU,[⟨3,[0,2,5]⟩,⟨1,[15]⟩,⟨2,[1,12,15]⟩,⟨4,[0,57]⟩],[false,false,false,false]⟩ (dL ⟨#[115,101,116,32,56,10]⟩)=some (⟨aU,[⟨3,[0,2,5]⟩,⟨1,[15]⟩,⟨2,[1,12,15]⟩,⟨4,[0,57]⟩,⟨5,[8]⟩],[false,false,false,false,false]⟩,⟨#[110,111,116,101,100]⟩):=by kernel_rfl
def asv:Dk.said ⟨aU,[⟨3,[0,2,5]⟩,⟨1,[15]⟩,⟨2,[1,12,15]⟩,⟨4,[0,57]⟩,⟨5,[8]⟩],[false,false,false,false,false]⟩ (dL ⟨#[115,101,116,32,56,10]⟩)=some (⟨aU,[⟨3,[0,2,5]⟩,⟨1,[15]⟩,⟨2,[1,12,15]⟩,⟨4,[0,57]⟩,⟨5,[8]⟩],[false,false,false,false,false]⟩,⟨#[101,114,114,111,114,32,55]⟩):=by kernel_rfl
def asw:Dk.said ⟨aU,[⟨3,[0,2,5]⟩,⟨1,[15]⟩,⟨2,[1,12,15]⟩,⟨4,[0,57]⟩,⟨5,[8]⟩],[false,false,false,false,false]⟩ (dL ⟨#[119,111,114,107,115,32,57,10]⟩)=some (⟨aU,[⟨3,[0,2,5]⟩,⟨1,[15]⟩,⟨2,[1,12,15]⟩,⟨4,[0,57]⟩,⟨5,[8]⟩],[false,false,false,false,false]⟩,⟨#[49,48]⟩):=by kernel_rfl
def asx:Dk.said ⟨aU,[⟨3,[0,2,5]⟩,⟨1,[15]⟩,⟨2,[1,12,15]⟩,⟨4,[0,57]⟩,⟨5,[8]⟩],[false,false,false,false,false]⟩ (dL ⟨#[100,97,116,101,32,52,48,10]⟩)=some (⟨aU,[⟨3,[0,2,5]⟩,⟨1,[15]⟩,⟨2,[1,12,15]⟩,⟨4,[0,57]⟩,⟨5,[8]⟩],[false,false,false,false,false]⟩,⟨#[50,32,57]⟩):=by kernel_rfl
def asy:Dk.said ⟨aU,[⟨3,[0,2,5]⟩,⟨1,[15]⟩,⟨2,[1,12,15]⟩,⟨4,[0,57]⟩,⟨5,[8]⟩],[false,false,false,false,false]⟩ (dL ⟨#[119,114,111,110,103,10]⟩)=some (⟨aU,[⟨3,[0,2,5]⟩,⟨1,[15]⟩,⟨2,[1,12,15]⟩,⟨4,[0,57]⟩,⟨5,[8]⟩],[false,false,false,false,false]⟩,⟨#[51,52,56]⟩):=by kernel_rfl
def asz:Dk.said ⟨aU,[⟨3,[0,2,5]⟩,⟨1,[15]⟩,⟨2,[1,12,15]⟩,⟨4,[0,57]⟩,⟨5,[8]⟩],[false,false,false,false,false]⟩ (dL ⟨#[99,117,116,115,32,51,54,10]⟩)=some (⟨aU,[⟨3,[0,2,5]⟩,⟨1,[15]⟩,⟨2,[1,12,15]⟩,⟨4,[0,57]⟩,⟨5,[8]⟩],[false,false,false,false,false]⟩,⟨#[50,32,49,32,51]⟩):=by kernel_rfl
def asA:Dk.said ⟨aU,[⟨3,[0,2,5]⟩,⟨1,[15]⟩,⟨2,[1,12,15]⟩,⟨4,[0,57]⟩,⟨5,[8]⟩],[false,false,false,false,false]⟩ (dL ⟨#[115,116,114,105,107,101,32,49,10]⟩)=some (⟨aU,[⟨3,[0,2,5]⟩,⟨1,[15]⟩,⟨2,[1,12,15]⟩,⟨4,[0,57]⟩,⟨5,[8]⟩],[false,false,false,false,false]⟩,⟨#[101,114,114,111,114,32,55]⟩):=by kernel_rfl
def asB:Dk.said ⟨aU,[⟨3,[0,2,5]⟩,⟨1,[15]⟩,⟨2,[1,12,15]⟩,⟨4,[0,57]⟩,⟨5,[8]⟩],[false,false,false,false,false]⟩ (dL ⟨#[115,116,114,105,107,101,32,52,10]⟩)=some (⟨aU,[⟨3,[0,2,5]⟩,⟨1,[15]⟩,⟨2,[1,12,15]⟩,⟨4,[0,57]⟩,⟨5,[8]⟩,⟨6,[4]⟩],[false,false,false,false,true,false]⟩,⟨#[110,111,116,101,100]⟩):=by kernel_rfl
def asC:Dk.said ⟨aU,[⟨3,[0,2,5]⟩,⟨1,[15]⟩,⟨2,[1,12,15]⟩,⟨4,[0,57]⟩,⟨5,[8]⟩,⟨6,[4]⟩],[false,false,false,false,true,false]⟩ (dL ⟨#[115,116,114,105,107,101,32,51,10]⟩)=some (⟨aU,[⟨3,[0,2,5]⟩,⟨1,[15]⟩,⟨2,[1,12,15]⟩,⟨4,[0,57]⟩,⟨5,[8]⟩,⟨6,[4]⟩,⟨6,[3]⟩],[false,false,false,true,true,false,false]⟩,⟨#[110,111,116,101,100]⟩):=by kernel_rfl
def asD:Dk.said ⟨aU,[⟨3,[0,2,5]⟩,⟨1,[15]⟩,⟨2,[1,12,15]⟩,⟨4,[0,57]⟩,⟨5,[8]⟩,⟨6,[4]⟩,⟨6,[3]⟩],[false,false,false,true,true,false,false]⟩ (dL ⟨#[99,111,105,110,115,10]⟩)=some (⟨aU,[⟨3,[0,2,5]⟩,⟨1,[15]⟩,⟨2,[1,12,15]⟩,⟨4,[0,57]⟩,⟨5,[8]⟩,⟨6,[4]⟩,⟨6,[3]⟩],[false,false,false,true,true,false,false]⟩,⟨#[48]⟩):=by kernel_rfl
def asE:Dk.said ⟨aU,[⟨3,[0,2,5]⟩,⟨1,[15]⟩,⟨2,[1,12,15]⟩,⟨4,[0,57]⟩,⟨5,[8]⟩,⟨6,[4]⟩,⟨6,[3]⟩],[false,false,false,true,true,false,false]⟩ (dL ⟨#[111,112,101,110,10]⟩)=some (⟨aU,[⟨3,[0,2,5]⟩,⟨1,[15]⟩,⟨2,[1,12,15]⟩,⟨4,[0,57]⟩,⟨5,[8]⟩,⟨6,[4]⟩,⟨6,[3]⟩],[false,false,false,true,true,false,false]⟩,⟨#[48,32,50,32,53]⟩):=by kernel_rfl
def asF:Dk.said ⟨aU,[⟨3,[0,2,5]⟩,⟨1,[15]⟩,⟨2,[1,12,15]⟩,⟨4,[0,57]⟩,⟨5,[8]⟩,⟨6,[4]⟩,⟨6,[3]⟩],[false,false,false,true,true,false,false]⟩ (dL ⟨#[115,116,97,110,100,115,10]⟩)=some (⟨aU,[⟨3,[0,2,5]⟩,⟨1,[15]⟩,⟨2,[1,12,15]⟩,⟨4,[0,57]⟩,⟨5,[8]⟩,⟨6,[4]⟩,⟨6,[3]⟩],[false,false,false,true,true,false,false]⟩,⟨#[48,32,49,32,50]⟩):=by kernel_rfl
def asG:Dk.said ⟨aU,[⟨3,[0,2,5]⟩,⟨1,[15]⟩,⟨2,[1,12,15]⟩,⟨4,[0,57]⟩,⟨5,[8]⟩,⟨6,[4]⟩,⟨6,[3]⟩],[false,false,false,true,true,false,false]⟩ (dL ⟨#[115,116,114,105,107,101,32,48,10]⟩)=some (⟨aU,[⟨3,[0,2,5]⟩,⟨1,[15]⟩,⟨2,[1,12,15]⟩,⟨4,[0,57]⟩,⟨5,[8]⟩,⟨6,[4]⟩,⟨6,[3]⟩],[false,false,false,true,true,false,false]⟩,⟨#[101,114,114,111,114,32,55]⟩):=by kernel_rfl
def asH:Dk.said ⟨aU,[⟨3,[0,2,5]⟩,⟨1,[15]⟩,⟨2,[1,12,15]⟩,⟨4,[0,57]⟩,⟨5,[8]⟩,⟨6,[4]⟩,⟨6,[3]⟩],[false,false,false,true,true,false,false]⟩ (dL ⟨#[115,116,114,105,107,101,32,57,10]⟩)=some (⟨aU,[⟨3,[0,2,5]⟩,⟨1,[15]⟩,⟨2,[1,12,15]⟩,⟨4,[0,57]⟩,⟨5,[8]⟩,⟨6,[4]⟩,⟨6,[3]⟩],[false,false,false,true,true,false,false]⟩,⟨#[101,114,114,111,114,32,50]⟩):=by kernel_rfl
def asI:Dk.said ⟨aU,[⟨3,[0,2,5]⟩,⟨1,[15]⟩,⟨2,[1,12,15]⟩,⟨4,[0,57]⟩,⟨5,[8]⟩,⟨6,[4]⟩,⟨6,[3]⟩],[false,false,false,true,true,false,false]⟩ (dL ⟨#[115,101,114,118,101,32,48,10]⟩)=some (⟨aU,[⟨3,[0,2,5]⟩,⟨1,[15]⟩,⟨2,[1,12,15]⟩,⟨4,[0,57]⟩,⟨5,[8]⟩,⟨6,[4]⟩,⟨6,[3]⟩],[false,false,false,true,true,false,false]⟩,⟨#[101,114,114,111,114,32,52]⟩):=by kernel_rfl
def aqW:Aa ⟨aU,[],[]⟩ (jw Zf) ⟨#[]⟩=some (⟨aU,[⟨3,[0,2,5]⟩,⟨1,[15]⟩,⟨2,[1,12,15]⟩,⟨4,[0,57]⟩,⟨5,[8]⟩,⟨6,[4]⟩,⟨6,[3]⟩],[false,false,false,true,true,false,false]⟩,KT):=by
 rw[amM];refine bf k_1 ?_;refine bf k_2 ?_;refine bf k_3 ?_;refine bf k_4 ?_;refine bf k_5 ?_;refine bf k_6 ?_;refine bf k_7 ?_;refine bf k_8 ?_;refine bf k_9 ?_;refine bf asb ?_;refine bf asc ?_;refine bf ase ?_;refine bf asf ?_;refine bf ash ?_;refine bf asi ?_;refine bf asj ?_;refine bf asl ?_;refine bf asn ?_;refine bf aso ?_;refine bf asq ?_;refine bf asr ?_;refine bf asu ?_;refine bf asv ?_;refine bf asw ?_;refine bf asx ?_;refine bf asy ?_;refine bf asz ?_;refine bf asA ?_;refine bf asB ?_;refine bf asC ?_;refine bf asD ?_;refine bf asE ?_;refine bf asF ?_;refine bf asG ?_;refine bf asH ?_;refine bf asI ?_
 kernel_rfl
def atm:aA:=(sw (r0 [ba 2 0 0,mf 4 false] 1 [1,2] [2]) (sw (sr [lw 24 17 2,mv 25 1,on 26 (.aj 17) [.t 24,.t 25,.c (.slice true [])],oa 27 pN 26,mv 28 27,ow 29 .mov 1 28 0,ow 30 .len 29 28 0,oF 31 pG [.t 30,kI 20] 28 0,pt 32 28 31,mv 33 32,ow 34 (.load true 17) 2 33 0,ow 35 (.aj 18) 34 33 0,ow 36 pN 35 33 0,pt 37 33 36] 0 [1,2,37] (cd 37 (sr [on 38 (.aj 19) [],mv 4 38] 0 [4] .ret) .skip)) (sw (r0 [lw 40 17 2,mv 41 1,ob 42 (.call 20) 40 41,mv 39 42,xa 43 0 39,xa 44 1 39,al 6 0 [zs,zs,zs,z0,z0,zs,z0,zs,z0,z0,z0,zs,z0,z0,z0,z0,z0,zs,zs],mv 5 43,sk 19 6 44 0] 1 [2,5,6] [6]) (sw (sr [mv 45 5,oc 46 (.tJ false) 45 (.c (.nilPtr))] 0 [2,5,6,46] (cd 46 (sr [mf 4 false] 0 [4] .ret) .skip)) (sw (r0 [mv 48 5,on 49 (.build [z0,zs] [(0,1)]) [kI 11],ob 50 (.call 21) 48 49,mv 47 50,xa 51 0 47,xa 52 1 47,mv 7 51,mv 8 52] 0 [2,6,7,8] [7]) (sr [lw 53 19 6,oi 54 (.aj 22) 53 (-1),mv 9 54] 0 [2,7,8,9] (sr [fa 55 0 2,fa 56 1 55,lo 57 56,oa 58 .len 57,ob 59 (.mkRow 2 (.agg [z0,z0])) 58 58,mv 10 59] 0 [2,7,8,9,10] (sr [mi 11 0] 0 [2,7,8,9,10,11] (sw (sr [mi 12 0] 0 [2,7,8,9,10,11,12] (.block 0 (.loop (sw (sr [mv 60 12,mv 61 9,oa 62 .len 61,ob 63 pL 60 62] 0 [2,7,8,9,10,11,12,63] (cx 63 0)) (sw (.block 1 (sr [mv 66 9,mv 67 12,ix 68 2 66 67,fa 69 1 68,lo 70 69,mv 13 70] 0 [2,7,8,9,10,11,12,13] (sw (sr [mv 71 9,mv 72 12,ix 73 2 71 72,fa 74 0 73,lo 75 74,oi 76 pE 75 3] 0 [2,7,8,9,10,11,12,13,76] (cd 76 (sw (sr [mv 77 10,mv 78 13,oi 79 (.aZ 1) 78 0,lo 80 79,ix 81 2 77 80,fa 82 1 81,lo 83 82,oi 84 pQ 83 0] 0 [2,7,8,9,10,11,12,13,84] (cd 84 (sr [mf 4 false] 0 [4] .ret) .skip)) (r1 [mv 85 10,mv 86 13,of 87 (.aZ 1) [.t 86,kI 0] 1,lv 88 87,mv 89 13,of 90 (.aZ 1) [.t 89,kI 1] 1,lv 91 90,mv 92 13,of 93 (.aZ 1) [.t 92,kI 2] 1,lv 94 93,ob 95 (.build [z0,z0] [(0,1),(1,1)]) 91 94,ix 96 2 85 88,sk 2 96 95 3] 0 [2,7,8,9,10,11,12,13] [])) .skip)) (sw (sr [mv 97 9,mv 98 12,ix 99 2 97 98,fa 100 0 99,lo 101 100,oi 102 pQ 101 4] 0 [2,7,8,9,10,11,12,13,102] (cd 102 (.exit 1) .skip)) (sw (r1 [ou 103 (.load true 17) 2 1,mv 104 9,mv 105 12,ob1 106 (.Eu 2 false true false) 104 105 1,ob 107 (.aj 25) 103 106,al 14 0 [zs,zs],sk 2 14 107 4] 1 [2,7,8,9,10,11,12,13,14] [14]) (sw (r1 [ou 109 (.load true 2) 14 1,mv 110 13,of 111 (.aZ 1) [.t 110,kI 0] 1,lv 112 111,mv 113 10,mv 114 13,of 115 (.aZ 1) [.t 114,kI 0] 1,lv 116 115,ix 117 2 113 116,ou 118 (.load true 2) 117 3,on 119 (.aj 27) [.t 109,.t 112,.t 118,kI 100],mv 108 119,xa 120 0 108,xa 121 1 108,mv 15 120,mv 16 121] 0 [2,7,8,9,10,11,12,13,14,15,16] []) (sw (r1 [ou 123 (.load true 2) 14 1,fu 124 1 14 1,lv 125 124,mv 126 13,of 127 (.aZ 1) [.t 126,kI 0] 1,lv 128 127,ob1 129 (.aZ 1) 125 128 1,lv 130 129,ob 131 (.aj 28) 123 130,mv 122 131,xa 132 0 122,xa 133 1 122,mv 17 132,mv 18 133] 0 [2,7,8,9,10,11,12,13,15,16,17,18] []) (sw (sr [mv 134 16,oi 135 pQ 134 0,mv 136 135,ow 137 .mov 15 136 0,ow 138 (.fld 3) 2 136 0,lq 139 138 136,ow 140 (.un .neg) 139 136 0,obF 141 pL 137 140 136 0,pt 142 136 141,mv 143 142,ow 144 .mov 15 143 0,ow 145 (.fld 3) 2 143 0,lq 146 145 143,obF 147 pG 144 146 143 0,pt 148 143 147,mv 149 148,ow 150 .mov 18 149 0,oF 151 pQ [.t 150,kI 0] 149 0,pt 152 149 151,mv 153 152,ow 154 .mov 17 153 0,ow 155 .len 154 153 0,oF 156 pG [.t 155,kI 3] 153 0,pt 157 153 156] 0 [2,7,8,9,10,11,12,13,17,157] (cd 157 (sr [mf 4 false] 0 [4] .ret) .skip)) (sr [fa 158 13 2,lo 159 158,fa 160 14 2,lo 161 160,fa 162 15 2,lo 163 162,fa 164 16 2,lo 165 164,on 166 (.build [zs,z0,z0,z0,z0,z0] [(1,1),(2,1),(3,1),(4,1)]) [.t 159,.t 161,.t 163,.t 165],al 19 0 [zs,z0,z0,z0,z0,z0],sk 6 19 166 0] 1 [2,7,8,9,10,11,12,13,17,19] (sw (sr [mi 20 0] 0 [2,7,8,9,10,11,12,13,17,19,20] (.block 2 (.loop (sw (sr [mv 167 20,mv 168 17,oa 169 .len 168,ob 170 pL 167 169] 0 [2,7,8,9,10,11,12,13,17,19,20,170] (cx 170 2)) (sw (.block 3 (r1 [fu 173 0 19 2,ou 174 (.load false 1) 173 2,mv 175 17,mv 176 20,ob1 177 (.aZ 2) 175 176 1,fu 178 0 177 1,lv 179 178,mv 180 17,mv 181 20,ob1 182 (.aZ 2) 180 181 1,fu 183 1 182 1,lv 184 183,ob1 185 (.gu 1 [z0,z0] [0,1]) 179 184 1,ob 186 (.app 1 false) 174 185,fu 187 0 19 2,sk 1 187 186 0] 0 [2,7,8,9,10,11,12,13,17,19,20] [])) (rg [mv 171 20,oi 172 pA 171 1,mv 20 172] 0 [2,7,8,9,10,11,12,13,17,19,20])))))) (sr [lw 189 6 19,oa 190 (.jd 29) 189,mv 188 190,xa 191 0 188,xa 192 1 188,xa 193 2 188,mv 21 191,mv 22 192,mv 23 193] 0 [2,7,8,9,10,11,12,13,21,23] (sw (sr [mv 194 23,oi 195 pQ 194 0,mv 196 195,ow 197 .mov 13 196 0,oF 198 (.aZ 1) [.t 197,kI 1] 196 0,lq 199 198 196,ow 200 .mov 21 196 0,obF 201 pL 199 200 196 0,pt 202 196 201] 0 [2,7,8,9,10,11,12,13,202] (cd 202 (sr [mf 4 false] 0 [4] .ret) .skip)) (sr [mv 203 10,mv 204 13,oi 205 (.aZ 1) 204 0,lo 206 205,on 207 (.build [z0,z0] []) [],ix 208 2 203 206,sk 2 208 207 0] 0 [2,7,8,9,10,11,12,13] (rg [mv 209 11,mv 210 13,oi 211 (.aZ 1) 210 1,lo 212 211,ob 213 pA 209 212,mv 11 213] 0 [2,7,8,9,10,11,12])))))))))))))) (rg [mv 64 12,oi 65 pA 64 1,mv 12 65] 0 [2,7,8,9,10,11,12])))))) (sr [mv 214 8,oi 215 pE 214 0,mv 216 215,ov 217 .mov 7 216 0,ov 218 .mov 11 216 0,ov 219 (.gu 1 [z0] [0]) 218 216 0,obT 220 (.aj 23) 217 219 216 0,pf 221 216 220,mv 222 221,ot 223 (.aj 19) [] 222 0,pf 224 222 223,mv 4 224] 0 [4] .ret))))))))))
def ato:aC C.P 5 2 atm aJ=true:=by kernel_rfl
def Me:aA:=(sw (r0 [ba 3 0 0,mf 6 false] 1 [1,2,3] [3]) (sw (sr [mi 7 0] 0 [1,2,3,7] (.block 0 (.loop (sw (sr [mv 9 7,mv 10 1,oa 11 .len 10,ob 12 pL 9 11,mv 13 12,ov 14 .mov 7 13 0,ot 15 pL [.t 14,kI 27] 13 0,pf 16 13 15] 0 [1,2,3,7,16] (cx 16 0)) (sw (.block 1 (sr [mv 19 1,mv 20 7,ix 21 2 19 20,fa 22 1 21,lo 23 22,oa 24 .len 23,oi 25 pG 24 6] 0 [1,2,3,7,25] (cd 25 (sr [mf 6 false] 0 [6] .ret) .skip))) (rg [mv 17 7,oi 18 pA 17 1,mv 7 18] 0 [1,2,3,7])))))) (sw (sr [mi 8 0] 0 [1,2,3,8] (.block 2 (.loop (sw (sr [mv 26 8,mv 27 2,oa 28 .len 27,ob 29 pL 26 28,mv 30 29,ov 31 .mov 8 30 0,ot 32 pL [.t 31,kI 11] 30 0,pf 33 30 32] 0 [1,2,3,8,33] (cx 33 2)) (sw (.block 3 (sr [mv 36 2,mv 37 8,ix 38 2 36 37,fa 39 1 38,lo 40 39,oa 41 .len 40,oi 42 pG 41 6] 0 [1,2,3,8,42] (cd 42 (sr [mf 6 false] 0 [6] .ret) .skip))) (rg [mv 34 8,oi 35 pA 34 1,mv 8 35] 0 [1,2,3,8])))))) (sr [lw 43 17 3,oa 44 (.aj 39) 43,mv 45 44,ov 46 .mov 1 45 0,ov 47 .len 46 45 0,ot 48 (.bin .leq) [.t 47,kI 26] 45 0,pf 49 45 48,mv 50 49,ov 51 .mov 2 50 0,ov 52 .len 51 50 0,ot 53 (.bin .leq) [.t 52,kI 10] 50 0,pf 54 50 53,mv 6 54] 0 [6] .ret))))
def YA:aC C.P 17 3 Me jr=true:=by kernel_rfl
end Go.Tel
