/-
  Part 8 of a law of desks.
  Conditions: none.
-/
import Derived.Test.YtkbhljmmnbgloaaGreatDoorTopDiscsM04
import Derived.Test.YtkbhljmmnbgloaaGreatDoorTopDiscsM05
import Derived.Test.YtkbhljmmnbgloaaGreatDoorTopDiscsM06
import Derived.Test.YtkbhljmmnbgloaaGreatDoorTopDiscsM07
import Derived.Test.YtkbhljmmnbgloaaGreatDoorRows
import Derived.Lay
import Derived.Handed
import Derived.LaidHandle
import Derived.Lib.LaidTab
set_option linter.all false
set_option maxRecDepth 10000
set_option maxHeartbeats 4000000
open Nat renaming reduceBEq->B,reduceAdd->E,reduceSub->F,reduceEqDiff->I,reduceLT->J,reduceLeDiff->N,zero_le->Y,zero_add->bd,reduceMul->bo,zero_mul->bE,one_mul->bR,sub_zero->cg,le_refl->cj
open List renaming length_map->O,not_mem_nil->U,getD_eq_getElem?_getD->ab,getElem?_eq_getElem->ae,drop_length->ai,length_append->am,length_cons->ao,length_nil->aw,getElem?_eq_some_iff->ax,mem_singleton->az,map_cons->aE,map_take->aL,contains_cons->aM,mem_take_iff_getElem->aR,mem_append->a6,length_singleton->a7,all_eq_true->a8,mem_map->bc,getElem?_cons_zero->bh,drop_eq_nil_of_le->bk,getElem?_set_ne->bp,append_nil->bq,map_append->br,nil_append->bu,map_nil->bB,mem_cons->bX,findSome?_cons->b7,all_cons->ca,findSome?_nil->cb,flatMap_cons->cf,flatMap_nil->ch,foldl_cons->cl,foldl_nil->cm,any_cons->cn,all_nil->cq
open Int renaming toNat_natCast->S,lt_irrefl->Z,reduceToNat->be,toNat_zero->bj,toNat_one->bl,reduceLE->bz,reduceLT->bA,le_refl->bO,sub_self->cp
open Bool renaming and_eq_true->V,false_eq_true->aq,true_and->av,or_eq_true->aD,not_eq_true'->bi,false_and->bL,not_false->bN,false_or->bS,or_eq_false_iff->b5,and_self->b8,and_true->b9,decide_and->ck
open Option renaming map_none->bv,map_some->bw
open ByteArray renaming size_append->b0
open Array renaming length_toList->b6
open Go.IntKind renaming wrap->cr
namespace Go.Tel
open Go.Am
def nlB:ByteArray:=⟨#[10]⟩
def yR:Dk->List ByteArray->ByteArray->Option (Dk×ByteArray)
 |D,[],out=>some (D,out)
 |D,l::a,out=>match D.said (vJ l)with|none=>none|some q=>yR q.1 a (out++(q.2++nlB))
def Jv:∀(l1 l2:List ByteArray) (D:Dk) (out:ByteArray),yR D (l1++l2) out=match yR D l1 out with|none=>none|some q=>yR q.1 l2 q.2
 | [],l2,D,out=>rfl
 |l::a,l2,D,out=>by
  rw[List.cons_append,yR,yR];cases D.said (vJ l)with
  |none=>rfl
  |some q=>exact Jv a l2 _ _
variable{M:Mem}
def FrD.kept {d n c:Nat}{ce cs ce' cs':PV}{M':Mem}(h:FrD d ce cs ce' cs' M M')(hf:FzB M->FzB M')(hd:d<n)(hc:d≠c):Kept n (·=c) no M M':=
 ⟨h.len,h.bn,fun i a b=>h.box i b (fun e=>a.elim (fun a=>by omega) fun a=>hc (by rw[<-e];exact a)),fun i _ b=>h.fz i b,fun _ h=>h.elim,hf⟩
def X6 (s:ByteArray):(iQ s).length<=s.size:=by
 have:∀l:List UInt8,(xQ l).length<=l.length:=by
  intro l
  induction l with
  |nil=>exact cj _
  |cons b l a=>
   rw[xQ]
   split
   ·simpa using a
   ·split
    ·simp
    ·rename_i h;rw[h]at a;simp at a⊢;omega
 unfold iQ;rw[O];have h1:=this s.data.toList;have:s.data.toList.length=s.size:=b6;omega
def Bz:∀(l:List UInt8) (x:List UInt8),x∈xQ l->x.length<=l.length
 | [],x,h=>by cases h
 |b::l,x,h=>by
  rw[xQ]at h
  split at h
  ·rcases bX.1 h with rfl|h
   ·simp
   ·have:=Bz l x h;simp;omega
  ·split at h
   ·simp at h;subst h;simp
   ·rename_i y ys a
    rcases bX.1 h with rfl|h
    ·have:=Bz l y (by rw[a];simp);simp;omega
    ·have:=Bz l x (by rw[a];simp[h]);simp;omega
def X7 {s x:ByteArray}(h:x∈iQ s):x.size<=s.size:=by
 simp only[iQ,bc]at h;obtain⟨l,a,rfl⟩:=h;have:=Bz _ _ a;have e:s.data.toList.length=s.size:=b6;simp only[ByteArray.size,List.size_toArray]at e⊢;rw[<-e];exact this
def Uf (s:ByteArray):(vJ s).size<=s.size:=by
 unfold vJ
 split
 ·simp
 ·exact cj _
def afe (s:Su)(a:ByteArray)(pre:List (List DV))(b:Mem):Prop:=
 ∃c f D e cs o,iQ a=c++f/\pre=c.map pX/\yR ⟨s,[],[]⟩ c ⟨#[]⟩=some (D,o)/\vH D 4 e cs b/\D.Ok/\b.boxes[1]?=some (some [.ptr 4 0])/\b.boxes[5]?=some (some [.d (.str o)])/\5∉b.fz/\o.size<=30001*c.length
def afe.moved {s:Su}{a:ByteArray}{pre:List (List DV)}{d f:Mem}{n:Nat}(h:afe s a pre d)(t:6<=n)(b:Moved n (·=6) d f):afe s a pre f:=by
 obtain⟨q,r,D,g,cs,o,h1,h2,i,c,j,k,l,m,p⟩:=h;refine⟨q,r,D,g,cs,o,h1,h2,i,?_,j,(b.box 1 (by omega) (by simp)).trans k,(b.box 5 (by omega) (by simp)).trans l,fun e=>m ((b.fz 5 (by omega) (by simp)).1 e),p⟩;exact⟨⟨(b.box 4 (by omega) (by simp)).trans c.box,by rw[b.aB];exact c.ent,by rw[b.aB];exact c.str⟩,c.dif,fun e=>c.nb ((b.fz 4 (by omega) (by simp)).1 e),b.fzb c.fzb⟩
def ZI (s:Su)(hs:s.Small)(O:s.ok=true){a out:ByteArray}(hl:a.size<=1500)(M:(a.toList==(⟨#[]⟩:ByteArray).toList||Dx a)=true){D':Dk}(b:yR ⟨s,[],[]⟩ (iQ a) ⟨#[]⟩=some (D',out)):
  Pure C 33 [s.dv, .str a] (.d (.tup [.str out,dI 0])) []:=by
 refine ah sV bQ ?_;rw[FN];simp only[sV,bQ,RN,B,E,F,I,J,N];have hO:=fun X KP=>aff s hs [X,none] [0] [] KP (by simp)
 rw[FN]at hO;refine SC.kL (SC.mono (hO _ (fun _ _=>False)) ?_) (fun _ _ h=>h);rintro p M' (⟨h,_⟩|⟨_,rfl,x1,x2,rfl⟩)
 ·rw[O]at h;cases h
 have z1:((0:Int) !=0)=false:=rfl;have z2:decide ((a.size:Int)>1500)=false:=decide_eq_false (by omega);simp only[xE,xG,lJ,z1,z2,lU,Tc,xk,EX,RN,B,E,F,I,J,N];have alc:(a.toList==(⟨#[]⟩:ByteArray).toList)=false->Dx a=true:=fun h=>by rw[h]at M;exact M
 cases t:(a.toList==(⟨#[]⟩:ByteArray).toList)
 all_goals first
  |(simp only[t,RN,B,E,F,I,J,N];refine fG rfl rfl (adi (by omega)) ?_;rw[alc t])
  |skip
 all_goals simp only[t,lJ,RN,B,E,F,I,J,N]
 all_goals refine SC.kL (SC.mono (ab7 a (KP:=fun _ _=>False)) ?_) (fun _ _ h=>h)
 all_goals rintro p M' ⟨rfl,rfl⟩
 all_goals(try simp only[RN,B,E,F,I,J,N])
 all_goals(
  refine qc (Wy a 6 (by omega)) (fun _ h=>h) rfl (by kernel_rfl) (fun i G=>by simp at G;simp;omega) (fun x u=>by obtain⟨y,_,rfl⟩:=bc.1 u;rfl) (fun i G=>by subst G;simp) (fun M' U=>⟨(U.box 6 (by simp) id).trans rfl,fun e=>by have:=(U.fz 6 (by simp) id).1 e;simp at this⟩)
   (afe s a) (fun az M1 M2 U h=>h.moved (by simp) U) ⟨[],iQ a,⟨s,[],[]⟩,_,_,_,rfl,rfl,rfl,⟨⟨rfl, .inl ⟨rfl,rfl⟩, .inl ⟨rfl,rfl⟩⟩,(by intro k hk;cases hk),by simp,by intro i G;simp at G;simp;omega⟩,⟨O,rfl,Y _,fun x h=>(by cases h),fun x h=>(by cases h)⟩,rfl,rfl,by simp,Y _⟩ ?_ ?_
  ·rintro L cells az x post ⟨j,ae,Z⟩ u r l K ⟨ls,V,D,ce,cs,o,h1,h2,S,h4,h5,z,n,T,h9⟩ M0
   simp only[ao,aw]at r l K z n T⊢;obtain⟨y,g,rfl,rfl⟩:∃y g,V=y::g/\x=pX y:=by
    rw[h1,h2,br]at u;have u:=List.append_cancel_left u;cases V with
    |nil=>cases u
    |cons y g=>exact⟨y,g,rfl,(List.cons.inj u).1.symm⟩
   rw[h1,Jv,S]at b;simp only[yR]at b;cases f:D.said (vJ y)with
   |none=>rw[f]at b;cases b
   |some q=>
   obtain⟨D2,W⟩:=q;have hy:y.size<=a.size:=X7 (by rw[h1];simp);have H:=X6 a;rw[h1]at H;simp only[am,ao]at H;have aM:=Uf y;have aL:=abE f;have c:5<j.length:=by omega
   have w:1<j.length:=by omega
   simp only[pX,List.zip_cons_cons,List.zip_nil_left,aE,bB,z,n,c,w,RN,B,E,F,I,J,N];refine fG rfl rfl (abQ (by omega)) ?_;(try simp only[RN,B,E,F,I,J,N]);refine afr n (by simp) ?_;refine SC.kL (SC.mono (ZN h4 h5 (by omega) f (KP:=fun _ _=>False)) ?_) (fun _ _ h=>h.elim);rintro p ⟨v,ai,aD⟩ ⟨rfl,ab,ac,R,m,q3⟩;have aq:v[5]?=some (some [.d (.str o)]):=(m.box 5 c (by decide)).trans n;have av:=m.len;simp only at av;have ajL:5<v.length:=by omega
   have A:¬5∈ai:=fun e=>T ((m.fz 5 c).1 e)
   refine⟨m.box 5 c (by decide),?_⟩;have P:W.size+nlB.size<=9223372036854775807:=by have:nlB.size=1:=rfl;omega
   have Q:o.size+(W++nlB).size<=9223372036854775807:=by have:nlB.size=1:=rfl;rw[b0];omega
   rw[nlB]at P Q;simp only[lU,Fp,P,Q,aq,ajL,A,uH,RN,B,E,F,I,J,N];refine⟨by rw[bp (by decide)];exact(m.box 7 (by simp only;omega) (by decide)).trans l,fun e=>K ((m.fz 7 (by simp only;omega)).1 e),(FrD.kept m (fun _=>q3) (by decide) (by decide)).set2 (by decide) (by decide),ls++ [y],g,D2,ab,ac,o++(W++nlB),by rw[h1];simp,by rw[h2];simp[pX],?_,
    ⟨⟨by simp only;rw[bp (by decide)];exact R.box,R.ent,R.str⟩,R.dif,R.nb,q3.set⟩,agZ h5 f,?_,by simp[ajL];rfl,A,?_⟩
   ·rw[Jv,S]
    simp only[yR,f]
   ·simp only;rw[bp (by decide)];exact(m.box 1 w (by decide)).trans z
   ·have:nlB.size=1:=rfl
    simp only[b0,am,ao,aw];omega
  ·rintro⟨j,ae,Z⟩ ⟨ls,V,D,ce,cs,o,h1,h2,S,h4,h5,z,n,T,h9⟩ r
   simp only[ao,aw]at r z n T;have ax:V=[]:=by
    have:=congrArg List.length h2;rw[h1]at this;simp at this;exact this
   subst ax;rw[h1,bq,S]at b;cases b;have c:5<j.length:=by omega
   simp only[n,c,RN,B,E,F,I,J,N])
def IL:aA:=(sr [al 0 0 [zs,zs,zs,z0,z0,zs,z0,zs,z0,z0,z0,zs,z0,z0,z0,z0,z0]] 1 [0] (sr [on 1 (.aj 87) [],on 2 (.build [z0,z0] [(0,1),(1,1)]) [kI 1,kI 3],on 3 (.build [z0,z0] [(0,1),(1,1)]) [kI 1499,kI 2000],ob 4 (.dA 2 [.agg [z0,z0],.agg [z0,z0]] [0,1]) 2 3,on 5 (.aj 88) [],on 6 (.aj 89) [],on 7 (.aj 90) [],on 8 (.build [.bool false,z0,z0,z0] [(0,1)]) [.c (.bool true)],on 9 (.build [.bool false,z0,z0,z0] [(1,1),(2,1)]) [kI 1,kI 6],ob 10 (.dA 4 [.agg [.bool false,z0,z0,z0],.agg [.bool false,z0,z0,z0]] [0,1]) 8 9,on 11 (.build [zs,zs,zs,z0,z0,zs,z0,zs,z0,z0,z0,zs,z0,z0,z0,z0,z0] [(0,2),(2,1),(3,1),(4,2),(6,2),(8,3),(11,1),(12,1),(13,1),(14,1),(15,1),(16,1)]) [.t 1,.t 4,kI 100,.t 5,.t 6,.t 7,.t 10,kI 1,kI 3,kI 6,kI 4,kI 10],sk 17 0 11 0] 0 [0] .ret))
def Vz:aA:=(sr [al 0 0 [zs,zs]] 1 [0] (sr [on 1 (.aj 160) [kI 10,kI 20],oa 2 (.build [z0,z0,z0] [(1,2)]) 1,on 3 (.aj 160) [kI 12,kI 18],on 4 (.build [z0,z0,z0] [(0,1),(1,2)]) [kI 1,.t 3],on 5 (.aj 160) [kI 15,kI 10],on 6 (.build [z0,z0,z0] [(0,1),(1,2)]) [kI 1,.t 5],on 7 (.dA 3 [.agg [z0,z0,z0],.agg [z0,z0,z0],.agg [z0,z0,z0]] [0,1,2]) [.t 2,.t 4,.t 6],on 8 (.dA 1 [z0,z0] [0,1]) [kI 2,kI 3],ob 9 (.build [zs,zs] [(0,1),(1,1)]) 7 8,sk 2 0 9 0] 0 [0] .ret))
def Vy:aA:=(sr [al 0 0 [z0,zs]] 1 [0] (sr [on 1 (.dA 1 [z0] [0]) [kI 4],oa 2 (.build [z0,zs] [(1,1)]) 1,sk 2 0 2 0] 0 [0] .ret))
def Vx:aA:=(sr [al 0 0 [z0,z0,z0]] 1 [0] (sr [on 1 (.build [z0,z0,z0] [(0,1),(1,1)]) [kI 59,kI 2],sk 3 0 1 0] 0 [0] .ret))
def KU:aA:=(sr [al 4 0 [z0,z0]] 1 [0,1,4] (sr [mv 5 0,mv 6 1,ob 7 (.build [z0,z0] [(0,1),(1,1)]) 5 6,sk 2 4 7 0] 0 [4] .ret))
def VB:aA:=(sr [al 0 0 [z0,z0,z0,z0,z0,zs,zs,zs]] 1 [0] (sr [on 1 (.build [z0,z0] [(0,1),(1,1)]) [kI 15,kI 20],on 2 (.build [z0,z0] [(0,1),(1,1)]) [kI 35,kI 20],on 3 (.build [z0,z0] [(0,1),(1,1)]) [kI 35,kI 36],on 4 (.dA 2 [.agg [z0,z0],.agg [z0,z0],.agg [z0,z0]] [0,1,2]) [.t 1,.t 2,.t 3],on 5 (.build [z0,z0,z0,z0] [(3,1)]) [kI 12],on 6 (.build [z0,z0,z0,z0] [(0,1),(3,1)]) [kI 1,kI 8],on 7 (.build [z0,z0,z0,z0] [(0,1),(2,1),(3,1)]) [kI 1,kI 1,kI 10],on 8 (.build [z0,z0,z0,z0] [(0,1),(2,1),(3,1)]) [kI 2,kI 1,kI 6],on 9 (.lG 4 [.agg [z0,z0,z0,z0],.agg [z0,z0,z0,z0],.agg [z0,z0,z0,z0],.agg [z0,z0,z0,z0]] [0,1,2,3]) [.t 5,.t 6,.t 7,.t 8],on 10 (.build [z0,z0] [(0,1),(1,1)]) [kI 0,kI 1],on 11 (.build [z0,z0] [(0,1),(1,1)]) [kI 2,kI 3],ob 12 (.dA 2 [.agg [z0,z0],.agg [z0,z0]] [0,1]) 10 11,on 13 (.build [z0,z0,z0,z0,z0,zs,zs,zs] [(0,1),(1,1),(2,1),(3,1),(4,1),(5,1),(6,1),(7,1)]) [kI 60,kI 50,kI 1,kI 1,kI 2,.t 4,.t 9,.t 12],sk 8 0 13 0] 0 [0] .ret))
def adZ:zL C.P 31 0 VB aeA=true:=by kernel_rfl
def VA:aA:=(sr [al 0 0 [z0,zs]] 1 [0] (sr [on 1 (.dA 1 [z0,z0,z0] [0,1,2]) [kI 15,kI 21,kI 27],on 2 (.build [z0,zs] [(0,1),(1,1)]) [kI 40,.t 1],sk 2 0 2 0] 0 [0] .ret))
def vS:Su:=⟨⟨[⟨0,⟨10,20⟩⟩,⟨1,⟨12,18⟩⟩,⟨1,⟨15,10⟩⟩],[2,3]⟩,[⟨1,3⟩,⟨1499,2000⟩],100,⟨40,[15,21,27]⟩,⟨0,[4]⟩,⟨59,2,0⟩,[⟨true,0,0,0⟩,⟨false,1,6,0⟩],1,3,6,4,10⟩
def SL:ByteArray:=⟨#[104,97,110,100,115,10,99,117,116,115,32,51,54,10,119,111,114,107,115,32,57,10]⟩
def Hw:ByteArray:=⟨#[49,32,51,32,51,32,52,10,50,32,49,32,51,10,49,48,10]⟩
def Gy {D b:Dk}{l a out:ByteArray}{ls:List ByteArray}{r:Option (Dk×ByteArray)}(h:D.said (vJ l)=some (b,a))(c:yR b ls (out++(a++nlB))=r):yR D (l::ls) out=r:=by
 rw[yR,h];exact c
def lsK:List ByteArray:=[⟨#[104,97,110,100,115,10]⟩,⟨#[99,117,116,115,32,51,54,10]⟩,⟨#[119,111,114,107,115,32,57,10]⟩]
def agn:iQ SL=lsK:=by kernel_rfl
def kd0:Dk:=⟨vS,[],[]⟩
def k_1:kd0.said (vJ (lsK.getD 0 default))=some (kd0,⟨#[49,32,51,32,51,32,52]⟩):=by kernel_rfl
def k_2:kd0.said (vJ (lsK.getD 1 default))=some (kd0,⟨#[50,32,49,32,51]⟩):=by kernel_rfl
def k_3:kd0.said (vJ (lsK.getD 2 default))=some (kd0,⟨#[49,48]⟩):=by kernel_rfl
def ako:yR ⟨vS,[],[]⟩ (iQ SL) ⟨#[]⟩=some (kd0,Hw):=by
 rw[agn];refine Gy k_1 ?_;refine Gy k_2 ?_;refine Gy k_3 ?_
 kernel_rfl
def GZ {base sz:Nat}{zs:List DV}{is:List Nat}{args:List PV}{ds xs:List DV}{K:PV->Mem->Prop}{KP:DV->Mem->Prop}(h1:cZ M args=some ds)(h2:qy sz zs is (ds.map DV.strip)=some xs)(a:M.frz args=M)(b:K (.d (.slice true xs)) M):ak C base (.dA sz zs is) args M K KP:=by
 simp only[ak,h1,h2,a];exact b
def Yi (a b:Int):Pure C 160 [dI a,dI b] (.d (.agg [dI a,dI b])) []:=by
 refine ah KU Ll ?_;simp only[KU,Ll,lJ,RN,B,E,F,I,J,N]
def P_k:Pure C 87 [] (.d (.agg [.slice true (vS.pc.links.map Lk.dv), .slice true (vS.pc.hands.map ay)])) []:=by
 refine ah Vz JW ?_;simp only[Vz,JW,lJ,RN,B,E,F,I,J,N];refine au (Yi 10 20) ?_;(try simp only[RN,B,E,F,I,J,N]);refine au (Yi 12 18) ?_;(try simp only[RN,B,E,F,I,J,N]);refine au (Yi 15 10) ?_;(try simp only[RN,B,E,F,I,J,N]);refine GZ rfl rfl rfl ?_;(try simp only[RN,B,E,F,I,J,N]);refine GZ rfl rfl rfl ?_;simp only[lJ,RN,B,E,F,I,J,N]
 rfl
def O_k:Pure C 89 [] (.d (.agg [dI 0, .slice true [dI 4]])) []:=by
 refine ah Vy JW ?_;simp only[Vy,JW,lJ,RN,B,E,F,I,J,N];exact⟨rfl,rfl⟩
def M_k:Pure C 90 [] (.d (.agg [dI 59,dI 2,dI 0])) []:=by
 refine ah Vx aez ?_;simp only[Vx,aez,lJ,RN,B,E,F,I,J,N]
def D_k:Pure C 88 [] (.d (.agg [dI 40, .slice true [dI 15,dI 21,dI 27]])) []:=by
 refine ah VA JW ?_;simp only[VA,JW,RN,B,E,F,I,J,N];refine GZ rfl rfl rfl ?_;simp only[lJ,RN,B,E,F,I,J,N]
 rfl
def ag4:DV:= .agg [.slice true (vS.pc.links.map Lk.dv), .slice true (vS.pc.hands.map ay), .slice true (vS.tg.map Fr.dv),dI 100,dI 40, .slice true (vS.dvd.cir.map ay),dI 0, .slice true (vS.cal.cy.map ay),dI 59,dI 2,dI 0, .slice true (vS.fs.map Fs.dv),dI 1,dI 3,dI 6,dI 4,dI 10]
def afl:Pure C 34 [] (.d ag4) []:=by
 refine ah IL aey ?_;simp only[IL,aey,RN,B,E,F,I,J,N];refine au P_k ?_;(try simp only[RN,B,E,F,I,J,N]);refine GZ rfl rfl rfl ?_;(try simp only[RN,B,E,F,I,J,N]);refine au D_k ?_;(try simp only[RN,B,E,F,I,J,N]);refine au O_k ?_;(try simp only[RN,B,E,F,I,J,N]);refine au M_k ?_;(try simp only[RN,B,E,F,I,J,N]);refine GZ rfl rfl rfl ?_;simp only[lJ,RN,B,E,F,I,J,N]
 rfl
def Tf:vS.Small:=⟨by decide,by decide,by decide,by decide,by decide⟩
def FX:aA:=(sr [mi 4 0,mi 5 0] 0 [0,1] (.scope (sw (sr [mv 9 0,mv 10 1,ob 11 (.aj 81) 9 10,oa 12 pN 11] 0 [0,1,12] (cd 12 (sr [mi 4 0,mi 5 2] 0 [4,5] .ret) .skip)) (sw (.label 0) (sw (sr [mv 13 0,oa 14 .len 13,mi 15 0] 0 [0,1,14,15] (.block 0 (.loop (sr [ob 16 pL 15 14] 0 [0,1,14,15,16] (sw (cx 16 0) (sw (.block 1 (sr [mv 17 15,mv 6 17] 0 [0,1,6,14,15] (sw (sr [mv 18 0,oa 19 .len 18,mi 20 0] 0 [0,1,6,14,15,18,19,20] (.block 2 (.loop (sr [ob 21 pL 20 19] 0 [0,1,6,14,15,18,19,20,21] (sw (cx 21 2) (sw (.block 3 (sr [mv 22 20,ix 23 1 18 20,lo 24 23,mv 7 22,mv 8 24] 0 [0,1,6,7,8,14,15,18,19,20] (sr [mv 25 8,mv 26 1,mv 27 7,mv 28 6,ob 29 pA 27 28,mv 30 1,oa 31 .len 30,ob 32 (.bin .rem) 29 31,ix 33 1 26 32,lo 34 33,ob 35 pQ 25 34] 0 [0,1,6,14,15,18,19,20,35] (cd 35 (.exit 1) .skip)))) (rg [oi 36 pA 20 1,mv 20 36] 0 [0,1,6,14,15,18,19,20]))))))) (sr [mv 37 6,mv 4 37,mi 5 0] 0 [4,5] .ret)))) (rg [oi 38 pA 15 1,mv 15 38] 0 [0,1,14,15]))))))) (sr [mi 4 0,mi 5 5] 0 [4,5] .ret))))))
def D5:aA:=(sr [mf 4 false] 0 [0,1] (sr [mv 5 0,oa 6 (.aj 146) 5,mv 7 6,ov 8 .mov 1 7 0,ov 9 (.aj 146) 8 7 0,pf 10 7 9,mv 11 10,ov 12 .mov 0 11 0,ov 13 .len 12 11 0,ov 14 .mov 1 11 0,ov 15 .len 14 11 0,obT 16 pE 13 15 11 0,pf 17 11 16,mv 4 17] 0 [4] .ret))
def II:aA:=(sr [mf 2 false] 0 [0] (sr [mv 3 0,oa 4 .len 3,on 5 (.aj 203) [.t 4,kI 3,kI 24],mv 6 5,ov 7 .mov 0 6 0,ot 8 (.aj 127) [.t 7,.c (.func (.func 204) [] [])] 6 0,ov 9 pN 8 6 0,pf 10 6 9,mv 2 10] 0 [2] .ret))
def D6:aA:=(sr [mf 2 false] 0 [0] (sr [mv 3 0,oa 4 (.aj 205) 3,oa 5 pN 4,mv 2 5] 0 [2] .ret))
def CP:aA:=(sr [mf 2 false] 0 [0] (sr [mv 3 0,on 4 (.aj 203) [.t 3,kI 0,kI 30],mv 2 4] 0 [2] .ret))
def ZT (n:Int):Pure C 205 [dI n] (.d (.bool (inR n 0 30))) []:=by
 refine ah CP aS ?_;simp only[CP,aS,RN,B,E,F,I,J,N];refine au (xM _ _ _) ?_;(try simp only[RN,B,E,F,I,J,N])
def aa4 (n:Int):Pure C 204 [dI n] (.d (.bool (!inR n 0 30))) []:=by
 refine ah D6 aS ?_;simp only[D6,aS,RN,B,E,F,I,J,N];refine au (ZT _) ?_;(try simp only[RN,B,E,F,I,J,N])
def HY (l:List Int):Bool:=inR l.length 3 24&& !l.any fun n=> !inR n 0 30
def Za (l:List Int)(hl:l.length<=1000000):Pure C 146 [sF (l.map ay)] (.d (.bool (HY l))) []:=by
 refine ah II aS ?_;simp only[II,aS,O,RN,B,E,F,I,J,N]
 repeat' first
  |(refine au (xM _ _ _) ?_;try simp only[O,RN,B,E,F,I,J,N])
  |(refine fG rfl rfl (mD l _ [] (fun n=> !inR n 0 30) hl (by kernel_rfl) (fun n _=>aa4 n)) ?_;try simp only[O,RN,B,E,F,I,J,N])
  |(refine aH (by rfl) (fun a=> ?_) (fun a=> ?_)<;>simp only[a,O,RN,B,E,F,I,J,N])
  |(refine aP (by rfl) (fun a=> ?_) (fun a=> ?_)<;>simp only[a,O,RN,B,E,F,I,J,N])
 all_goals(first|(simp only[HY, *,BSN];done)|(simp_all[HY];done)|(simp_all[HY];omega))
def ZQ (a b:List Int)(hl:a.length<=1000000)(e:b.length<=1000000):Pure C 81 [sF (a.map ay),sF (b.map ay)] (.d (.bool (HY a&&HY b&&((a.length:Int)==b.length)))) []:=by
 refine ah D5 aQ ?_;simp only[D5,aQ,O,RN,B,E,F,I,J,N]
 repeat' first
  |(refine au (Za a hl) ?_;try simp only[O,RN,B,E,F,I,J,N])
  |(refine au (Za b e) ?_;try simp only[O,RN,B,E,F,I,J,N])
  |(refine aH (by rfl) (fun c=> ?_) (fun c=> ?_)<;>simp only[c,O,RN,B,E,F,I,J,N])
  |(refine aP (by rfl) (fun c=> ?_) (fun c=> ?_)<;>simp only[c,O,RN,B,E,F,I,J,N])
 all_goals simp_all
def Fz (b:List Int)(k:Nat):Nat->List Int->Bool
 | _,[]=>true
 |i,n::l=>(n==b.getD ((i+k) % b.length) default)&&Fz b k (i+1) l
def yN (a b:List Int):Nat->Nat->Option Nat
 | _,0=>none
 |k,n+1=>if Fz b k 0 a then some k else yN a b (k+1) n
def acd (a b:List Int)(ha:HY a=true)(hb:HY b=true)(t:a.length=b.length):
  Pure C 32 [sF (a.map ay),sF (b.map ay)] (.d (.tup (match yN a b 0 a.length with|some k=>[dI k,dI 0]|none=>[dI 0,dI 5]))) []:=by
 have u:3<=a.length/\a.length<=24:=by simp only[HY,inR,V,decide_eq_true_eq]at ha;omega
 have j:=ZQ a b (by omega) (by omega);have e:((a.length:Int)==b.length)=true:=beq_iff_eq.2 (by omega);rw[ha,hb,e]at j;refine ah FX bQ ?_;simp only[FX,bQ,RN,B,E,F,I,J,N];refine au j ?_;simp only[O,RN,B,E,F,I,J,N];refine aG a.length (fun i (_:Unit)=>⟨[(0, .d (sF (a.map ay))),(1, .d (sF (b.map ay))),(14,pI a.length),(15,pI i)],bg⟩)
  (fun i _=>yN a b 0 a.length=yN a b i (a.length - i)) 0 () (Y _) rfl (by simp) (fun i _ p c=> ?_) (fun _ c=> ?_)
 ·obtain⟨q,r,s⟩:=rng p (by omega)
  obtain⟨n,v⟩:∃n,a.length - i=n+1:=⟨a.length - i - 1,by omega⟩
  have o:a.length - (i+1)=n:=by omega
  rw[v,yN]at c;simp only[q,r,O,RN,B,E,F,I,J,N];refine aG a.length (fun k (_:Unit)=>⟨[(0, .d (sF (a.map ay))),(1, .d (sF (b.map ay))),(6,pI i),(14,pI a.length),(15,pI i),(18, .d (sF (a.map ay))),(19,pI a.length),(20,pI k)],bg⟩)
   (fun k _=>Fz b i 0 a=Fz b i k (a.drop k)) 0 () (Y _) rfl (by simp) (fun k _ m f=> ?_) (fun _ f=> ?_)
  ·obtain⟨w,x,y⟩:=rng m (by omega)
   rw[drop_cons m,Fz]at f;have z:cr .i64 ((k:Int)+(i:Int))=((k+i:Nat):Int):=by rw[aF (by omega)];omega
   have D:(k+i) % b.length<b.length:=Nat.mod_lt _ (by omega);have A:((k+i:Nat):Int).tmod (b.length:Int)=(((k+i) % b.length:Nat):Int):=rfl;have G:(0:Int)<=(((k+i) % b.length:Nat):Int):=Int.natCast_nonneg _;have H:((b.length:Int)=0)=False:=eq_false (by omega);simp only[w,x,m,z,A,D,G,H,getD_map,aZ,S,O,RN,B,E,F,I,J,N]
   by_cases l:a.getD k default=b.getD ((k+i) % b.length) default
   ·have g:(a.getD k default !=b.getD ((k+i) % b.length) default)=false:=bne_eq_false_iff_eq.2 l
    have h:(a.getD k default==b.getD ((k+i) % b.length) default)=true:=beq_iff_eq.2 l;rw[h,av]at f;simp only[g,y,RN,B,E,F,I,J,N];exact dX () m rfl f (by simp) (by simp) rfl rfl
   ·have g:(a.getD k default !=b.getD ((k+i) % b.length) default)=true:=bne_iff_ne.2 l
    have h:(a.getD k default==b.getD ((k+i) % b.length) default)=false:=beq_eq_false_iff_ne.2 l;rw[h,bL]at f;rw[f,if_neg (by decide)]at c;simp only[g,s,RN,B,E,F,I,J,N];exact dX () p rfl (by rw[o];exact c) (by simp) (by simp) rfl rfl
  ·rw[ai,Fz]at f
   rw[f,if_pos rfl]at c;simp only[Z,c,RN,B,E,F,I,J,N]
 ·rw[Nat.sub_self,yN]at c
  simp only[Z,c,RN,B,E,F,I,J,N]
def IU:aA:=(sw (r0 [ba 1 0 0,mf 2 false] 1 [1] [1]) (sw (sr [fa 11 0 1,lo 12 11,on 13 (.aj 29) [.t 12,kI 1,kI 120],oa 14 pN 13,mv 15 14,ow 16 (.fld 1) 1 15 0,lq 17 16 15,oF 18 (.aj 29) [.t 17,kI 1,kI 120] 15 0,ow 19 pN 18 15 0,pt 20 15 19,mv 21 20,ow 22 (.fld 2) 1 21 0,lq 23 22 21,oF 24 (.aj 29) [.t 23,kI 0,kI 4] 21 0,ow 25 pN 24 21 0,pt 26 21 25,mv 27 26,ow 28 (.fld 3) 1 27 0,lq 29 28 27,oF 30 (.aj 29) [.t 29,kI 0,kI 4] 27 0,ow 31 pN 30 27 0,pt 32 27 31,mv 33 32,ow 34 (.fld 4) 1 33 0,lq 35 34 33,oF 36 (.aj 29) [.t 35,kI 0,kI 3] 33 0,ow 37 pN 36 33 0,pt 38 33 37] 0 [1,38] (cd 38 (sr [mf 2 false] 0 [2] .ret) .skip)) (sw (sr [fa 39 5 1,lo 40 39,oa 41 .len 40,on 42 (.aj 29) [.t 41,kI 1,kI 6],oa 43 pN 42,mv 44 43,ow 45 (.fld 6) 1 44 0,lq 46 45 44,ow 47 .len 46 44 0,oF 48 pG [.t 47,kI 8] 44 0,pt 49 44 48,mv 50 49,ow 51 (.fld 7) 1 50 0,lq 52 51 50,ow 53 .len 52 50 0,oF 54 pG [.t 53,kI 10] 50 0,pt 55 50 54] 0 [1,55] (cd 55 (sr [mf 2 false] 0 [2] .ret) .skip)) (sw (sr [mi 3 0] 0 [1,3] (.block 0 (.loop (sw (sr [mv 56 3,fa 57 5 1,lo 58 57,oa 59 .len 58,ob 60 pL 56 59] 0 [1,3,60] (cx 60 0)) (sw (.block 1 (sw (r0 [fa 63 5 1,lo 64 63,mv 65 3,ix 66 2 64 65,lw 67 2 66,al 4 0 [z0,z0],sk 2 4 67 0] 1 [1,3,4] [4]) (sw (sr [fa 68 0 4,lo 69 68,fa 70 0 1,lo 71 70,on 72 (.aj 29) [.t 69,kI 0,.t 71],oa 73 pN 72,mv 74 73,ow 75 (.fld 1) 4 74 0,lq 76 75 74,ow 77 (.fld 1) 1 74 0,lq 78 77 74,oF 79 (.aj 29) [.t 76,kI 0,.t 78] 74 0,ow 80 pN 79 74 0,pt 81 74 80] 0 [1,3,4,81] (cd 81 (sr [mf 2 false] 0 [2] .ret) .skip)) (sr [mi 5 0] 0 [1,3,4,5] (.block 2 (.loop (sw (sr [mv 82 5,mv 83 3,ob 84 pL 82 83] 0 [1,3,4,5,84] (cx 84 2)) (sw (.block 3 (sw (r1 [fu 87 5 1 1,lv 88 87,mv 89 5,ob1 90 (.bU 2) 88 89 1,ou 91 (.load true 2) 90 1,ou 92 (.load true 2) 4 1,ob 93 (.A8 false [1,1]) 91 92] 0 [1,3,4,5,93] []) (cd 93 (sr [mf 2 false] 0 [2] .ret) .skip))) (rg [mv 85 5,oi 86 pA 85 1,mv 5 86] 0 [1,3,4,5]))))))))) (rg [mv 61 3,oi 62 pA 61 1,mv 3 62] 0 [1,3])))))) (sw (sr [mi 6 0] 0 [1,6] (.block 4 (.loop (sw (sr [mv 94 6,fa 95 6 1,lo 96 95,oa 97 .len 96,ob 98 pL 94 97] 0 [1,6,98] (cx 98 4)) (sw (.block 5 (sw (r0 [fa 101 6 1,lo 102 101,mv 103 6,ix 104 4 102 103,lw 105 4 104,al 7 0 [z0,z0,z0,z0],sk 4 7 105 0] 1 [1,6,7] [7]) (sr [fa 106 0 7,lo 107 106,fa 108 5 1,lo 109 108,oa 110 .len 109,oi 111 pU 110 1,on 112 (.aj 29) [.t 107,kI 0,.t 111],oa 113 pN 112,mv 114 113,ow 115 (.fld 1) 7 114 0,lq 116 115 114,oF 117 (.aj 29) [.t 116,kI 0,kI 2] 114 0,ow 118 pN 117 114 0,pt 119 114 118,mv 120 119,ow 121 (.fld 2) 7 120 0,lq 122 121 120,oF 123 (.aj 29) [.t 122,kI 0,kI 5] 120 0,ow 124 pN 123 120 0,pt 125 120 124,mv 126 125,ow 127 (.fld 3) 7 126 0,lq 128 127 126,oF 129 (.aj 29) [.t 128,kI 4,kI 50] 126 0,ow 130 pN 129 126 0,pt 131 126 130] 0 [1,6,131] (cd 131 (sr [mf 2 false] 0 [2] .ret) .skip)))) (rg [mv 99 6,oi 100 pA 99 1,mv 6 100] 0 [1,6])))))) (sw (sr [mi 8 0] 0 [1,8] (.block 6 (.loop (sw (sr [mv 132 8,fa 133 7 1,lo 134 133,oa 135 .len 134,ob 136 pL 132 135] 0 [1,8,136] (cx 136 6)) (sw (.block 7 (sw (r0 [fa 139 7 1,lo 140 139,mv 141 8,ix 142 2 140 141,lw 143 2 142,al 9 0 [z0,z0],sk 2 9 143 0] 1 [1,8,9] [9]) (sw (sr [lw 144 8 1,fa 145 0 9,lo 146 145,ob 147 (.aj 13) 144 146,oa 148 pN 147,mv 149 148,ow 150 (.load true 8) 1 149 0,ow 151 (.fld 1) 9 149 0,lq 152 151 149,obF 153 (.aj 13) 150 152 149 0,ow 154 pN 153 149 0,pt 155 149 154,mv 156 155,ow 157 (.fld 0) 9 156 0,lq 158 157 156,ow 159 (.fld 1) 9 156 0,lq 160 159 156,obF 161 (.bin .geq) 158 160 156 0,pt 162 156 161] 0 [1,8,9,162] (cd 162 (sr [mf 2 false] 0 [2] .ret) .skip)) (sr [mi 10 0] 0 [1,8,9,10] (.block 8 (.loop (sw (sr [mv 163 10,mv 164 8,ob 165 pL 163 164] 0 [1,8,9,10,165] (cx 165 8)) (sw (.block 9 (sw (r1 [fu 168 7 1 1,lv 169 168,mv 170 10,ob1 171 (.bU 2) 169 170 1,ou 172 (.load true 2) 171 1,ou 173 (.load true 2) 9 1,ob 174 (.A8 false [1,1]) 172 173] 0 [1,8,9,10,174] []) (cd 174 (sr [mf 2 false] 0 [2] .ret) .skip))) (rg [mv 166 10,oi 167 pA 166 1,mv 10 167] 0 [1,8,9,10]))))))))) (rg [mv 137 8,oi 138 pA 137 1,mv 8 138] 0 [1,8])))))) (sr [mf 2 true] 0 [2] .ret)))))))
def F9:aA:=(sw (r0 [ba 3 0 0,mf 6 false] 1 [1,2,3] [3]) (sw (sr [mi 7 0] 0 [1,2,3,7] (.block 0 (.loop (sw (sr [mv 9 7,fa 10 7 3,lo 11 10,oa 12 .len 11,ob 13 pL 9 12] 0 [1,2,3,7,13] (cx 13 0)) (sw (.block 1 (sw (r0 [fa 16 7 3,lo 17 16,mv 18 7,ix 19 2 17 18,lw 20 2 19,al 8 0 [z0,z0],sk 2 8 20 0] 1 [1,2,3,7,8] [8]) (sr [fa 21 0 8,lo 22 21,mv 23 1,ob 24 pE 22 23,mv 25 24,ov 26 (.fld 1) 8 25 0,ov 27 (.load false 1) 26 25 0,ov 28 .mov 2 25 0,obT 29 pE 27 28 25 0,pf 30 25 29,mv 31 30,ow 32 (.fld 0) 8 31 0,lq 33 32 31,ow 34 .mov 2 31 0,obF 35 pE 33 34 31 0,ow 36 .mov 35 31 0,ov 37 (.fld 1) 8 36 0,ov 38 (.load false 1) 37 36 0,ov 39 .mov 1 36 0,obT 40 pE 38 39 36 0,oF 41 .pick [.t 36,.t 40,.c (.bool false)] 31 0,pt 42 31 41] 0 [1,2,3,7,42] (cd 42 (sr [mf 6 true] 0 [6] .ret) .skip)))) (rg [mv 14 7,oi 15 pA 14 1,mv 7 15] 0 [1,2,3,7])))))) (sr [mf 6 false] 0 [6] .ret)))
def IV:aA:=(sw (r0 [ba 2 0 0,mf 4 false] 1 [1,2] [2]) (sr [mv 5 1,fa 6 6 2,lo 7 6,oa 8 .len 7,oi 9 pU 8 1,on 10 (.aj 29) [.t 5,kI 0,.t 9],mv 4 10] 0 [4] .ret))
def Qj:aA:=(sr [mf 6 false] 0 [0,1,2] (sr [mv 7 0,mv 8 1,ob 9 (.bin .geq) 7 8,mv 10 9,ov 11 .mov 0 10 0,ov 12 .mov 2 10 0,obT 13 (.bin .leq) 11 12 10 0,pf 14 10 13,mv 6 14] 0 [6] .ret))
def ahz {v x:Pt}:((v.x==x.x)&&(v.y==x.y))=decide (v=x):=by
 cases v;cases x;simp only[Pt.mk.injEq,ck];rfl
def adR {v x:Ms}:((v.a==x.a)&&(v.b==x.b))=decide (v=x):=by
 cases v;cases x;simp only[Ms.mk.injEq,ck];rfl
def zn (n l h:Int):Pure C 29 [dI n,dI l,dI h] (.d (.bool (inR n l h))) []:=by
 refine ah Qj iH ?_
 by_cases h1:n>=l<;>simp only[h1,inR,Qj,iH,bL,RN,B,E,F,I,J,N]
def aa3 (xs:List Pt)(v:Pt)(hl:xs.length<=1000000):Pure C 142 [sF (xs.map Pt.dv),v.dv] (pI (idx v xs 0)) []:=by
 refine ah kE aQ ?_;simp only[kE,aQ,sK,O,RN,B,E,F,I,J,N];refine aG xs.length (fun i (_:Unit)=>⟨[(0, .d (sF (xs.map Pt.dv))),(3, .d (.aV [dI v.x,dI v.y])),(7,pI xs.length),(8,pI i)],⟨[some [pI v.x,pI v.y]],[0],[]⟩⟩) (fun i _=>idx v xs 0=idx v (xs.drop i) i) 0 () (Y _) rfl rfl (fun i _ h1 a=> ?_) (fun _ a=> ?_)
 ·obtain⟨h2,c,e⟩:=rng h1 hl
  rw[drop_cons h1,idx]at a;cases b:decide (v=xs.getD i default)
  ·simp only[h2,c,h1,e,b,sK,xC,ahz,J8,getD_map,S,O,RN,B,E,F,I,J,N]
   exact dX () h1 rfl (by rw[if_neg (by simpa using b)]at a;exact a) (by simp) (by simp) rfl rfl
  ·simp only[h2,c,h1,b,sK,xC,ahz,J8,getD_map,S,O,RN,B,E,F,I,J,N]
   rw[a,if_pos (by simpa using b)]
 ·rw[ai,idx]at a
  simp only[Z,a,RN,B,E,F,I,J,N]
def H7 (xs:List Pt)(v:Pt)(hl:xs.length<=1000000):Pure C 79 [sF (xs.map Pt.dv),v.dv] (.d (.bool (xs.contains v))) []:=by
 have a:=aa3 xs v hl;refine ah jB aQ ?_;simp only[sK]at a⊢;simp only[jB,aQ,RN,B,E,F,I,J,N];refine au a ?_;simp only[Ru,RN,B,E,F,I,J,N]
def aa2 (xs:List Ms)(v:Ms)(hl:xs.length<=1000000):Pure C 161 [sF (xs.map Ms.dv),v.dv] (pI (idx v xs 0)) []:=by
 refine ah kP aQ ?_;simp only[kP,aQ,Cm,O,RN,B,E,F,I,J,N];refine aG xs.length (fun i (_:Unit)=>⟨[(0, .d (sF (xs.map Ms.dv))),(3, .d (.aV [dI v.a,dI v.b])),(7,pI xs.length),(8,pI i)],⟨[some [pI v.a,pI v.b]],[0],[]⟩⟩) (fun i _=>idx v xs 0=idx v (xs.drop i) i) 0 () (Y _) rfl rfl (fun i _ h1 c=> ?_) (fun _ c=> ?_)
 ·obtain⟨h2,f,g⟩:=rng h1 hl
  rw[drop_cons h1,idx]at c;cases e:decide (v=xs.getD i default)
  ·simp only[h2,f,h1,g,e,Cm,xC,adR,J8,getD_map,S,O,RN,B,E,F,I,J,N]
   exact dX () h1 rfl (by rw[if_neg (by simpa using e)]at c;exact c) (by simp) (by simp) rfl rfl
  ·simp only[h2,f,h1,e,Cm,xC,adR,J8,getD_map,S,O,RN,B,E,F,I,J,N]
   rw[c,if_pos (by simpa using e)]
 ·rw[ai,idx]at c
  simp only[Z,c,RN,B,E,F,I,J,N]
def Q7 (xs:List Ms)(v:Ms)(hl:xs.length<=1000000):Pure C 91 [sF (xs.map Ms.dv),v.dv] (.d (.bool (xs.contains v))) []:=by
 have a:=aa2 xs v hl;refine ah jJ aQ ?_;simp only[Cm]at a⊢;simp only[jJ,aQ,RN,B,E,F,I,J,N];refine au a ?_;simp only[Ru,RN,B,E,F,I,J,N]
def zV (p:Piece)(n:Int)(hl:p.ws.length<=1000000):Pure C 36 [p.dv,dI n] (.d (.bool (inR n 0 (p.ws.length - 1)))) []:=by
 refine ah Ah aQ ?_;have h:cr .i64 ((p.ws.length:Int) - 1)=p.ws.length - 1:=aF (by omega);simp only[Ah,aQ,fD,O,h,RN,B,E,F,I,J,N];refine au (Ns _ _ _) ?_;(try simp only[RN,B,E,F,I,J,N])
def UY (p:Piece)(w:Wh)(hl:p.cs.length<=1000000):Pure C 93 [w.dv, .aV [dI p.w,dI p.h,dI p.pl,dI p.ga,dI p.po,sF (p.cs.map Pt.dv),sF (p.ws.map Wh.dv),sF (p.ms.map Ms.dv)]] (.d (.bool (!FH p.cs.length w))) []:=by
 refine ah yA JU ?_;have h:cr .i64 ((p.cs.length:Int) - 1)=p.cs.length - 1:=aF (by omega);simp only[yA,JU,jX,O,h,RN,B,E,F,I,J,N]
 repeat' first
  |(refine au (Ns _ _ _) ?_;try simp only[RN,B,E,F,I,J,N])
  |(refine aH (by rfl) (fun a=> ?_) (fun a=> ?_)<;>simp only[a,RN,B,E,F,I,J,N])
  |(refine aP (by rfl) (fun a=> ?_) (fun a=> ?_)<;>simp only[a,RN,B,E,F,I,J,N])
 all_goals simp_all[FH]
def XR (xs:List Wh)(fn:FuncId)(b:List DV)(p:Wh->Bool)(hl:xs.length<=1000000)(hc:callable C.P fn=true)(g:∀x∈xs,Pure C fn ([(Wh.dv x).strip]++b.map DV.strip) (.d (.bool (p x))) []):
  Pure C 162 [sF (xs.map Wh.dv), .func (.func fn) [] b] (pI (jM p xs 0)) []:=by
 refine ah jr aQ ?_;simp only[jr,aQ,O,RN,B,E,F,I,J,N];refine aG xs.length (fun i (_:Unit)=>⟨[(0, .d (sF (xs.map Wh.dv))),(1, .d (.func (.func fn) [] b)),(7,pI xs.length),(8,pI i)],⟨[],[],[]⟩⟩)
  (fun i _=>jM p xs 0=jM p (xs.drop i) i) 0 () (Y _) rfl rfl (fun i _ h1 a=> ?_) (fun _ a=> ?_)
 ·obtain⟨h2,e,f⟩:=rng h1 hl
  rw[drop_cons h1,jM]at a;have j:=g (xs.getD i default) (by rw[ab,ae h1];exact List.getElem_mem h1);simp only[h2,e,h1,getD_map,S,O,jX,RN,B,E,F,I,J,N];refine nG rfl hc (by simp only[bu,br,aE,bB,jX]) j ?_;cases c:p (xs.getD i default)
  ·simp only[f,RN,B,E,F,I,J,N]
   exact dX () h1 rfl (by rw[if_neg (fun h=>by rw[c]at h;cases h)]at a;exact a) (by simp) (by simp) rfl rfl
  ·(try simp only[RN,B,E,F,I,J,N])
   rw[a,if_pos c]
 ·rw[ai,jM]at a
  simp only[Z,a,RN,B,E,F,I,J,N]
def OQ (xs:List Wh)(fn:FuncId)(a:List DV)(p:Wh->Bool)(hl:xs.length<=1000000)(hc:callable C.P fn=true)(c:∀x∈xs,Pure C fn ([(Wh.dv x).strip]++a.map DV.strip) (.d (.bool (p x))) []):
  Pure C 92 [sF (xs.map Wh.dv), .func (.func fn) [] a] (.d (.bool (xs.any p))) []:=by
 have b:=XR xs fn a p hl hc c;refine ah iL aQ ?_;simp only[iL,aQ,RN,B,E,F,I,J,N];refine au b ?_;simp only[ES,RN,B,E,F,I,J,N]
def mZ (p:Piece):List DV:=[dI p.w,dI p.h,dI p.pl,dI p.ga,dI p.po,sF (p.cs.map Pt.dv),sF (p.ws.map Wh.dv),sF (p.ms.map Ms.dv)]
def Sr (xs:List Pt):∀x∈xs.map Pt.dv,x.cells.length=2:=by
 intro x a;simp only[bc]at a;obtain⟨y,_,rfl⟩:=a;rfl
def NK (xs:List Ms):∀x∈xs.map Ms.dv,x.cells.length=2:=by
 intro x a;simp only[bc]at a;obtain⟨y,_,rfl⟩:=a;rfl
def KF (p:Piece)(hc:p.cs.length<=1000)(o:p.ws.length<=1000)(n:p.ms.length<=1000):Pure C 35 [p.dv] (.d (.bool p.ok)) []:=by
 refine ah Af aS ?_;simp only[Af,aS,fD,RN,B,E,F,I,J,N]
 repeat' first
  |(refine au (Ns _ _ _) ?_;try simp only[O,RN,B,E,F,I,J,N])
  |(refine aH (by rfl) (fun b=> ?_) (fun b=> ?_)<;>simp only[b,O,RN,B,E,F,I,J,N])
  |(refine aP (by rfl) (fun b=> ?_) (fun b=> ?_)<;>simp only[b,O,RN,B,E,F,I,J,N])
 any_goals (simp_all[Piece.ok,Piece.DL,Piece.Bq];done)
 refine aG p.cs.length (fun i (_:Unit)=>⟨[(1, .d (.aV (mZ p))),(53, .d (sF (p.cs.map Pt.dv))),(54,pI p.cs.length),(55,pI i)],⟨[some ((mZ p).map .d)],[0],[]⟩⟩)
  (fun i _=>AA p.w p.h [] p.cs=AA p.w p.h (p.cs.take i) (p.cs.drop i)) 0 () (Y _) rfl (by simp) (fun i _ h1 g=> ?_) (fun _ g=> ?_)
 ·obtain⟨h2,f,j⟩:=rng h1 (by omega)
  rw[drop_cons h1,AA]at g;have a:((i:Nat):Int)<=((p.cs.map Pt.dv).length:Int):=by simp;omega
  have k:(p.cs.take i).length<=1000000:=by simp;omega
  simp only[h2,f,h1,getD_map,S,O,sK,mZ,RN,B,E,F,I,J,N]
  repeat' first
   |(refine au (Ns _ _ _) ?_;try simp only[j,O,iP (Sr p.cs) f a,S,<-aL,RN,B,E,F,I,J,N])
   |(refine au (H7 _ _ k) ?_;try simp only[j,O,iP (Sr p.cs) f a,S,<-aL,RN,B,E,F,I,J,N])
   |(refine aH (by rfl) (fun b=> ?_) (fun b=> ?_)<;>simp only[b,j,O,iP (Sr p.cs) f a,S,<-aL,RN,B,E,F,I,J,N])
   |(refine aP (by rfl) (fun b=> ?_) (fun b=> ?_)<;>simp only[b,j,O,iP (Sr p.cs) f a,S,<-aL,RN,B,E,F,I,J,N])
  any_goals (simp_all[Piece.ok];done)
  all_goals
   refine bK 1 0 () h1 rfl ?_ (by simp) (by simp) rfl rfl;rw[g]
   simp_all
 ·rw[ai]at g
  simp only[Z,mZ,O,RN,B,E,F,I,J,N];refine aG p.ms.length (fun i (_:Unit)=>⟨[(1, .d (.aV (mZ p))),(84, .d (sF (p.ms.map Ms.dv))),(85,pI p.ms.length),(86,pI i)],⟨[some ((mZ p).map .d)],[0],[]⟩⟩)
   (fun i _=>zY p.ws.length [] p.ms=zY p.ws.length (p.ms.take i) (p.ms.drop i)) 0 () (Y _) rfl (by simp) (fun i _ h1 c=> ?_) (fun _ c=> ?_)
  ·obtain⟨h2,f,j⟩:=rng h1 (by omega)
   rw[drop_cons h1,zY]at c;have a:((i:Nat):Int)<=((p.ms.map Ms.dv).length:Int):=by simp;omega
   have k:(p.ms.take i).length<=1000000:=by simp;omega
   simp only[h2,f,h1,getD_map,S,O,Cm,mZ,RN,B,E,F,I,J,N]
   repeat' first
    |(refine au (Ns _ _ _) ?_;try simp only[j,O,iP (NK p.ms) f a,S,<-aL,RN,B,E,F,I,J,N])
    |(refine au (Q7 _ _ k) ?_;try simp only[j,O,iP (NK p.ms) f a,S,<-aL,RN,B,E,F,I,J,N])
    |(refine fG rfl rfl (zV p _ (by omega)) ?_;try simp only[j,O,iP (NK p.ms) f a,S,<-aL,RN,B,E,F,I,J,N])
    |(refine aH (by rfl) (fun b=> ?_) (fun b=> ?_)<;>simp only[b,j,O,iP (NK p.ms) f a,S,<-aL,RN,B,E,F,I,J,N])
    |(refine aP (by rfl) (fun b=> ?_) (fun b=> ?_)<;>simp only[b,j,O,iP (NK p.ms) f a,S,<-aL,RN,B,E,F,I,J,N])
   any_goals (simp_all[Piece.ok];done)
   all_goals
    refine bK 1 0 () h1 rfl ?_ (by simp) (by simp) rfl rfl;rw[c]
    simp_all
  ·rw[ai]at c
   simp only[Z,mZ,O,ac3,RN,B,E,F,I,J,N];refine fG rfl rfl (OQ p.ws _ _ (fun w=> !FH p.cs.length w) (by omega) (by kernel_rfl) (fun w _=>UY p w (by omega))) ?_;(try simp only[RN,B,E,F,I,J,N]);simp only[AA,zY]at g c;have e:∀l:List Wh,(l.any fun w=> !FH p.cs.length w)= !l.all (FH p.cs.length):=by
    intro l;induction l with
    |nil=>rfl
    |cons x l m=>simp only[cn,ca,m,Bool.not_and]
   rw[e,Bool.not_not]
   simp_all[Piece.ok,Piece.DL,Piece.Bq]
structure Piece.good (p:Piece):Prop where
 cs:∀c∈p.cs,0<=c.x/\c.x<=1000/\0<=c.y/\c.y<=1000
 ws:∀w∈p.ws,(0<=w.iY/\w.iY.toNat<p.cs.length)/\0<=w.aO/\w.aO<=1000/\0<=w.layer/\w.layer<=1000
 w:0<=p.w/\p.w<=1000
 h:0<=p.h/\p.h<=1000
 pl:0<=p.pl/\p.pl<=1000
 ga:0<=p.ga/\p.ga<=1000
 po:0<=p.po/\p.po<=1000
 lw:p.ws.length<=1000
def Piece.isW (p:Piece)(a:Int):Prop:=0<=a/\a.toNat<p.ws.length
def Gs {n:Int}{k:Nat}(h: -(k:Int)<=n/\n<=k):0<=n*n/\n*n<=((k*k:Nat):Int):=by
 have e:n*n=((n.natAbs*n.natAbs:Nat):Int):=by
  rw[Int.natCast_mul];exact(Int.natAbs_mul_self' n).symm
 have h1:n.natAbs<=k:=by omega
 have h2:=Nat.mul_le_mul h1 h1;rw[e];omega
section
variable {p:Piece}(hg:p.good){a b:Int}(ha:p.isW a)(hb:p.isW b)
include hg ha
def pz:((0<=(p.ws.getD a.toNat default).iY/\(p.ws.getD a.toNat default).iY.toNat<p.cs.length)/\0<=(p.ws.getD a.toNat default).aO/\(p.ws.getD a.toNat default).aO<=1000/\0<=(p.ws.getD a.toNat default).layer/\(p.ws.getD a.toNat default).layer<=1000):=
 hg.ws _ (getD_mem ha.2)
def ER:0<=(p.cs.getD (p.ws.getD a.toNat default).iY.toNat default).x/\(p.cs.getD (p.ws.getD a.toNat default).iY.toNat default).x<=1000/\0<=(p.cs.getD (p.ws.getD a.toNat default).iY.toNat default).y/\(p.cs.getD (p.ws.getD a.toNat default).iY.toNat default).y<=1000:=
 hg.cs _ (getD_mem (pz hg ha).1.2)
include hb
def aic:0<=p.far a b/\p.far a b<=2000000:=by
 have h1:=ER hg ha;have h2:=ER hg hb;have x:=Gs (n:=(p.pt a).x - (p.pt b).x) (k:=1000) (by simp only[Piece.pt,Piece.wh];omega);have y:=Gs (n:=(p.pt a).y - (p.pt b).y) (k:=1000) (by simp only[Piece.pt,Piece.wh];omega);simp only[Piece.far,sq];omega
end
def AP (n:Int)(h: -10000<=n/\n<=10000):Pure C 167 [dI n] (pI (sq n)) []:=by
 have hb:=Gs (n:=n) (k:=10000) (by omega);have a:cr .i64 (n*n)=n*n:=aF (by omega);refine ah CW aS ?_;simp only[CW,aS,a,sq,RN,B,E,F,I,J,N]
def GV (l:Laid)(hg:l.p.good)(a b:Int)(ha:l.p.isW a)(hb:l.p.isW b):Pure C 166 [l.dv,dI a,dI b] (pI (l.p.far a b)) []:=by
 have k:=aic hg ha hb;have xa:=ER hg ha;have m:=ER hg hb;obtain⟨⟨e,f⟩,_⟩:=pz hg ha;obtain⟨⟨i,j⟩,_⟩:=pz hg hb;obtain⟨c,d⟩:=ha;obtain⟨g,h⟩:=hb;refine ah zh iH ?_;simp only[zh,iH,iZ,sK,jX,getD_map,c,d,e,f,g,h,i,j,O,RN,B,E,F,I,J,N];rw[aF (by omega)];refine fG rfl rfl (AP _ (by omega)) ?_;rw[aF (by omega)];refine fG rfl rfl (AP _ (by omega)) ?_;simp only[Piece.far,Piece.pt,Piece.wh]at k;simp only[Piece.far,Piece.pt,Piece.wh,RN,B,E,F,I,J,N];rw[aF (by omega)]
def wU (l:Laid)(a b:Int)(ha:l.p.isW a)(hb:l.p.isW b):Pure C 164 [l.dv,dI a,dI b] (.d (.bool (l.p.level a b))) []:=by
 obtain⟨c,e⟩:=ha;obtain⟨f,g⟩:=hb;refine ah wG iH ?_;simp only[wG,iH,iZ,jX,getD_map,c,e,f,g,O,Piece.level,Piece.wh,RN,B,E,F,I,J,N]
def ku (l:Laid)(a b:Int)(ha:l.p.isW a)(hb:l.p.isW b):Pure C 165 [l.dv,dI a,dI b] (.d (.bool (l.p.o9 a b))) []:=by
 obtain⟨c,e⟩:=ha;obtain⟨f,g⟩:=hb;refine ah tu iH ?_;simp only[tu,iH,iZ,jX,getD_map,c,e,f,g,O,Piece.o9,Piece.wh,RN,B,E,F,I,J,N]
def Nz (l:Laid)(hg:l.p.good)(a b:Int)(ha:l.p.isW a)(hb:l.p.isW b):Pure C 163 [l.dv,dI a,dI b] (pI (l.p.sum a b)) []:=by
 have ga:=pz hg ha;have g:=pz hg hb;obtain⟨c,d⟩:=ha;obtain⟨e,f⟩:=hb;refine ah zi iH ?_;simp only[zi,iH,iZ,jX,getD_map,c,d,e,f,O,Piece.sum,Piece.wh,RN,B,E,F,I,J,N];rw[aF (by omega)]
def xP (l:Laid)(a b:Int)(ha:l.p.isW a)(hb:l.p.isW b):Pure C 106 [l.dv,dI a,dI b] (.d (.bool (l.p.Fh a b))) []:=by
 have i:=ku l a b ha hb;obtain⟨c,e⟩:=ha;obtain⟨f,g⟩:=hb;refine ah tC iH ?_;simp only[tC,iH,iZ,RN,B,E,F,I,J,N];refine au i ?_;cases h:l.p.o9 a b
 ·simp only[Piece.Fh,h,bL,RN,B,E,F,I,J,N]
 ·simp only[jX,getD_map,c,e,f,g,O,Piece.Fh,h,Piece.wh,RN,B,E,F,I,J,N]
def Va (k:Ms):∀mm:List Ms,xU [1,1] (mm.map fun m=>(m.dv,DV.bool true)) [dI k.a,dI k.b]=some (if mm.contains k then some (.bool true)else none)
 | []=>rfl
 |m::mm=>by
  simp only[aE,Cm,xU,bG,if_true,bw,b9,adR,aM]
  by_cases h:k=m
  ·subst h;simp
  ·have hb:(k==m)=false:=by simp[h]
   have hd:decide (k=m)=false:=by simp[h]
   have:=Va k mm;simp only[Cm]at this;simp only[hd,hb,bS,this]
variable{base:Nat}{M:Mem}{K:PV->Mem->Prop}{KP:DV->Mem->Prop}
def Uu {C:Ctx}{mm:List Ms}{x y:Int}:
  ak C base (.Iw [1,1] (.bool false)) [.d (.map (some (mm.map fun m=>(m.dv, .bool true)))), .d (.agg [dI x,dI y])] M K KP=K (.d (.bool (mm.contains ⟨x,y⟩))) M:=by
 have h:=Va ⟨x,y⟩ mm;simp only at h;have a:bG [1,1] [dI x,dI y] [dI x,dI y]=some true:=by simp[bG]
 simp only[ak,a,h];cases mm.contains ⟨x,y⟩<;>rfl
def Laid.fine (l:Laid):Prop:=∀m,l.mm.contains m=l.p.ms.contains m
def KH (l:Laid)(hf:l.fine)(a b:Int):Pure C 105 [l.dv,dI a,dI b] (.d (.bool (l.p.mesh a b))) []:=by
 refine ah yB iH ?_;simp only[yB,iH,iZ,Uu,hf _,Piece.mesh,RN,B,E,F,I,J,N];have c:(if b<a then b else a)=min a b:=by split<;>omega
 have e:(if b>a then b else a)=max a b:=by split<;>omega
 rw[c,e]
variable{p:Piece}
def aeY (hg:p.good){a b:Int}(ha:p.isW a)(hb:p.isW b):0<=p.sum a b/\p.sum a b<=2000:=by
 have h1:=pz hg ha;have h2:=pz hg hb;simp only[Piece.sum,Piece.wh];omega
def RD (l:Laid)(hg:l.p.good)(hf:l.fine)(a b:Int)(ha:l.p.isW a)(hb:l.p.isW b):Pure C 95 [l.dv,dI a,dI b] (.d (.bool (l.p.apart a b))) []:=by
 have g:=aeY hg ha hb;have f:=hg.pl;have c:cr .i64 (l.p.sum a b+l.p.pl)=l.p.sum a b+l.p.pl:=aF (by omega);refine ah wE iH ?_;simp only[wE,iH,iZ,RN,B,E,F,I,J,N]
 repeat' first
  |(refine au (Nz l hg a b ha hb) ?_;try simp only[c,RN,B,E,F,I,J,N])
  |(refine au (KH l hf a b) ?_;try simp only[c,RN,B,E,F,I,J,N])
  |(refine au (wU l a b ha hb) ?_;try simp only[c,RN,B,E,F,I,J,N])
  |(refine au (ku l a b ha hb) ?_;try simp only[c,RN,B,E,F,I,J,N])
  |(refine au (GV l hg a b ha hb) ?_;try simp only[c,RN,B,E,F,I,J,N])
  |(refine fG rfl rfl (AP _ (by omega)) ?_;try simp only[c,RN,B,E,F,I,J,N])
  |(refine aH (by rfl) (fun e=> ?_) (fun e=> ?_)<;>simp only[e,c,RN,B,E,F,I,J,N])
  |(refine aP (by rfl) (fun e=> ?_) (fun e=> ?_)<;>simp only[e,c,RN,B,E,F,I,J,N])
 all_goals(first|(simp only[Piece.apart, *,BSN];done)|(simp_all[Piece.apart];done)|(simp_all[Piece.apart];omega))
def RH (l:Laid)(hg:l.p.good)(hf:l.fine)(a b:Int)(ha:l.p.isW a)(hb:l.p.isW b):Pure C 96 [l.dv,dI a,dI b] (.d (.bool (l.p.touch a b))) []:=by
 have g:=aeY hg ha hb;have f:=hg.ga;have c:cr .i64 (l.p.sum a b+l.p.ga)=l.p.sum a b+l.p.ga:=aF (by omega);refine ah wH iH ?_;simp only[wH,iH,iZ,RN,B,E,F,I,J,N]
 repeat' first
  |(refine au (Nz l hg a b ha hb) ?_;try simp only[c,RN,B,E,F,I,J,N])
  |(refine au (KH l hf a b) ?_;try simp only[c,RN,B,E,F,I,J,N])
  |(refine au (wU l a b ha hb) ?_;try simp only[c,RN,B,E,F,I,J,N])
  |(refine au (ku l a b ha hb) ?_;try simp only[c,RN,B,E,F,I,J,N])
  |(refine au (GV l hg a b ha hb) ?_;try simp only[c,RN,B,E,F,I,J,N])
  |(refine fG rfl rfl (AP _ (by omega)) ?_;try simp only[c,RN,B,E,F,I,J,N])
  |(refine aH (by rfl) (fun e=> ?_) (fun e=> ?_)<;>simp only[e,c,RN,B,E,F,I,J,N])
  |(refine aP (by rfl) (fun e=> ?_) (fun e=> ?_)<;>simp only[e,c,RN,B,E,F,I,J,N])
 all_goals(first|(simp only[Piece.touch, *,BSN];done)|(simp_all[Piece.touch];done)|(simp_all[Piece.touch];omega))
def U3 (l:Laid)(a b:Int)(ha:l.p.isW a)(hb:l.p.isW b):Pure C 97 [l.dv,dI a,dI b] (.d (.bool (l.p.same a b))) []:=by
 refine ah yC iH ?_;simp only[yC,iH,iZ,RN,B,E,F,I,J,N]
 repeat' first
  |(refine au (wU l a b ha hb) ?_;try simp only[RN,B,E,F,I,J,N])
  |(refine au (ku l a b ha hb) ?_;try simp only[RN,B,E,F,I,J,N])
  |(refine aH (by rfl) (fun c=> ?_) (fun c=> ?_)<;>simp only[c,RN,B,E,F,I,J,N])
  |(refine aP (by rfl) (fun c=> ?_) (fun c=> ?_)<;>simp only[c,RN,B,E,F,I,J,N])
 all_goals(first|(simp only[Piece.same, *,BSN];done)|(simp_all[Piece.same];done)|(simp_all[Piece.same];omega))
def RG (l:Laid)(hg:l.p.good)(a:Int)(ha:l.p.isW a):Pure C 94 [l.dv,dI a] (.d (.bool (l.p.Um a))) []:=by
 have xa:=ER hg ha;obtain⟨⟨h,i⟩,t1,t2,_⟩:=pz hg ha;obtain⟨f,g⟩:=ha;have c:cr .i64 ((l.p.cs.getD (l.p.ws.getD a.toNat default).iY.toNat default).x+(l.p.ws.getD a.toNat default).aO)=(l.p.cs.getD (l.p.ws.getD a.toNat default).iY.toNat default).x+(l.p.ws.getD a.toNat default).aO:=aF (by omega);have e:cr .i64 ((l.p.cs.getD (l.p.ws.getD a.toNat default).iY.toNat default).y+(l.p.ws.getD a.toNat default).aO)=(l.p.cs.getD (l.p.ws.getD a.toNat default).iY.toNat default).y+(l.p.ws.getD a.toNat default).aO:=aF (by omega);refine ah wF aQ ?_;simp only[wF,aQ,iZ,sK,jX,getD_map,f,g,h,i,O,RN,B,E,F,I,J,N]
 repeat' first
  |(refine fG rfl rfl (AP _ (by omega)) ?_;try simp only[c,e,RN,B,E,F,I,J,N])
  |(refine aH (by rfl) (fun b=> ?_) (fun b=> ?_)<;>simp only[b,c,e,RN,B,E,F,I,J,N])
  |(refine aP (by rfl) (fun b=> ?_) (fun b=> ?_)<;>simp only[b,c,e,RN,B,E,F,I,J,N])
 all_goals(first|(simp only[Piece.Um,Piece.pt,Piece.wh, *,BSN];done)|(simp_all[Piece.Um,Piece.pt,Piece.wh];done)|(simp_all[Piece.Um,Piece.pt,Piece.wh];omega))
def CG (l:Laid)(hg:l.p.good)(a b:Int)(ha:l.p.isW a)(hb:l.p.isW b):Pure C 168 [dI a,dI b, .aV [dI l.p.w,dI l.p.h,dI l.p.pl,dI l.p.ga,dI l.p.po,sF (l.p.cs.map Pt.dv),sF (l.p.ws.map Wh.dv),sF (l.p.ms.map Ms.dv),
  .map (some (l.mm.map fun m=>(m.dv, .bool true))),sF (l.gone.map ay)]] (.d (.bool (l.p.post a b))) []:=by
 have k:=hg.po;have af5:=GV l hg a b ha hb;obtain⟨_,t1,t2,_⟩:=pz hg ha;obtain⟨c,e⟩:=ha;obtain⟨f,g⟩:=hb;have j:cr .i64 ((l.p.ws.getD a.toNat default).aO+l.p.po)=(l.p.ws.getD a.toNat default).aO+l.p.po:=aF (by omega);refine ah rE Oh ?_;simp only[rE,Oh,jX,getD_map,c,e,f,g,O,RN,B,E,F,I,J,N]
 repeat' first
  |(refine au (af5) ?_;try simp only[j,jX,getD_map,c,e,f,g,O,RN,B,E,F,I,J,N])
  |(refine fG rfl rfl (AP _ (by omega)) ?_;try simp only[j,jX,getD_map,c,e,f,g,O,RN,B,E,F,I,J,N])
  |(refine aH (by rfl) (fun i=> ?_) (fun i=> ?_)<;>simp only[i,j,jX,getD_map,c,e,f,g,O,RN,B,E,F,I,J,N])
  |(refine aP (by rfl) (fun i=> ?_) (fun i=> ?_)<;>simp only[i,j,jX,getD_map,c,e,f,g,O,RN,B,E,F,I,J,N])
 all_goals(first|(simp only[Piece.post,Piece.wh, *,BSN];done)|(simp_all[Piece.post,Piece.wh];done)|(simp_all[Piece.post,Piece.wh];omega))
def OX (l:Laid)(hg:l.p.good)(a b:Int)(ha:l.p.isW a)(hb:l.p.isW b):Pure C 99 [l.dv,dI a,dI b] (.d (.bool (l.p.JM a b))) []:=by
 refine ah uX iH ?_;simp only[uX,iH,iZ,RN,B,E,F,I,J,N]
 repeat' first
  |(refine au (ku l a b ha hb) ?_;try simp only[RN,B,E,F,I,J,N])
  |(refine nG rfl (by kernel_rfl) rfl (CG l hg a b ha hb) ?_;try simp only[RN,B,E,F,I,J,N])
  |(refine nG rfl (by kernel_rfl) rfl (CG l hg b a hb ha) ?_;try simp only[RN,B,E,F,I,J,N])
  |(refine aH (by rfl) (fun c=> ?_) (fun c=> ?_)<;>simp only[c,RN,B,E,F,I,J,N])
  |(refine aP (by rfl) (fun c=> ?_) (fun c=> ?_)<;>simp only[c,RN,B,E,F,I,J,N])
 all_goals(first|(simp only[Piece.JM, *,BSN];done)|(simp_all[Piece.JM];done)|(simp_all[Piece.JM];omega))
def iq (l:Laid):List DV:=[dI l.p.w,dI l.p.h,dI l.p.pl,dI l.p.ga,dI l.p.po,sF (l.p.cs.map Pt.dv),sF (l.p.ws.map Wh.dv),sF (l.p.ms.map Ms.dv),
  .map (some (l.mm.map fun m=>(m.dv, .bool true))),sF (l.gone.map ay)]
variable{a b:Int}
def aht:(if b<a then b else a)=min a b:=by split<;>omega
def ahs:(if b>a then b else a)=max a b:=by split<;>omega
def P9 (p:Piece)(gone:List Int){a b i o:Int}(h1:p.o9 a b=true)(h2:p.Fh a b=false)(c:p.level a b=false)(hi:(if(p.wh a).nD>(p.wh b).nD then b else a)=i)(ho:(if(p.wh a).nD>(p.wh b).nD then a else b)=o):
  p.nested gone a b=inR (p.wh i).layer ((p.bounds gone o 0 p.ws ((p.wh o).layer,(p.wh o).layer)).1+1) ((p.bounds gone o 0 p.ws ((p.wh o).layer,(p.wh o).layer)).2 - 1):=by
 simp only[Piece.nested,h1,h2,c,hi,ho,Bool.not_true,Bool.or_self,aq,if_false]
def OW (l:Laid)(hg:l.p.good)(t:l.gone.length<=1000000)(a b:Int)(ha:l.p.isW a)(hb:l.p.isW b):Pure C 98 [l.dv,dI a,dI b] (.d (.bool (l.p.nested l.gone a b))) []:=by
 have y:=hg.lw;have ga:=pz hg ha;have z:=pz hg hb;obtain⟨k,m⟩:=id ha;obtain⟨n,q⟩:=id hb;refine ah uV iH ?_;simp only[uV,iH,iZ,RN,B,E,F,I,J,N]
 repeat' first
  |(refine au (ku l a b ha hb) ?_;try simp only[jX,getD_map,k,m,n,q,O,RN,B,E,F,I,J,N])
  |(refine au (xP l a b ha hb) ?_;try simp only[jX,getD_map,k,m,n,q,O,RN,B,E,F,I,J,N])
  |(refine au (wU l a b ha hb) ?_;try simp only[jX,getD_map,k,m,n,q,O,RN,B,E,F,I,J,N])
  |(refine aH (by rfl) (fun e=> ?_) (fun e=> ?_)<;>simp only[e,jX,getD_map,k,m,n,q,O,RN,B,E,F,I,J,N])
  |(refine aP (by rfl) (fun e=> ?_) (fun e=> ?_)<;>simp only[e,jX,getD_map,k,m,n,q,O,RN,B,E,F,I,J,N])
 any_goals (simp_all[Piece.nested];done)
 all_goals have j:=e
 ·
  refine aG l.p.ws.length (fun i (r:Int×Int)=>⟨[(3, .d (.aV (iq l))),(7,pI b),(8,pI a),(9,pI r.1),(10,pI r.2),(65, .d (sF (l.p.ws.map Wh.dv))),(66,pI l.p.ws.length),(67,pI i)],⟨[some ((iq l).map .d)],[0],[]⟩⟩)
   (fun i r=>l.p.bounds l.gone a 0 l.p.ws ((l.p.wh a).layer,(l.p.wh a).layer)=l.p.bounds l.gone a i (l.p.ws.drop i) r/\(0<=r.1/\r.1<=1000)/\0<=r.2/\r.2<=1000) 0 ((l.p.wh a).layer,(l.p.wh a).layer) (Y _) rfl ⟨rfl,by simp only[Piece.wh];omega,by simp only[Piece.wh];omega⟩ (fun i r h1 c=> ?_) (fun r c=> ?_)
  ·obtain⟨h2,s,h⟩:=rng h1 (by omega)
   obtain⟨c,f,g⟩:=c;rw[drop_cons h1,Piece.bounds]at c;have v:=hg.ws _ (getD_mem h1);have u:l.p.isW (i:Int):=⟨s,by simpa using h1⟩
   simp only[h2,s,h1,getD_map,S,O,jX,iq,RN,B,E,F,I,J,N]
   repeat' first
    |(refine au (xP l i a u ha) ?_;try simp only[h,RN,B,E,F,I,J,N])
    |(refine au (zC _ _ t) ?_;try simp only[h,RN,B,E,F,I,J,N])
    |(refine aH (by rfl) (fun e=> ?_) (fun e=> ?_)<;>simp only[e,h,RN,B,E,F,I,J,N])
    |(refine aP (by rfl) (fun e=> ?_) (fun e=> ?_)<;>simp only[e,h,RN,B,E,F,I,J,N])
   ·refine bK 1 0 (min r.1 (l.p.ws.getD i default).layer,max r.2 (l.p.ws.getD i default).layer) h1 ?_ ⟨?_,by simp only;omega,by simp only;omega⟩ (by simp) (by simp) rfl rfl
    ·simp only[aht,ahs];rfl
    ·rw[c,if_pos (by simp only[*,b8])]
   ·refine bK 1 0 r h1 rfl ⟨?_,f,g⟩ (by simp) (by simp) rfl rfl
    rw[c,if_neg (by simp_all)]
   ·refine bK 1 0 r h1 rfl ⟨?_,f,g⟩ (by simp) (by simp) rfl rfl
    rw[c,if_neg (by simp_all)]
  ·obtain⟨c,f,g⟩:=c
   rw[ai,Piece.bounds]at c;have w:cr .i64 (r.1+1)=r.1+1:=aF (by omega);have x:cr .i64 (r.2 - 1)=r.2 - 1:=aF (by omega);simp only[Z,iq,getD_map,n,q,jX,O,w,x,RN,B,E,F,I,J,N];refine au (Ns _ _ _) ?_;rw[P9 l.p l.gone (by simp_all) (by simp_all) (by simp_all) (i:=b) (o:=a) (by rw[if_pos];simpa[Piece.wh]using j) (by rw[if_pos];simpa[Piece.wh]using j),c]
   rfl
 ·
  refine aG l.p.ws.length (fun i (r:Int×Int)=>⟨[(3, .d (.aV (iq l))),(7,pI a),(8,pI b),(9,pI r.1),(10,pI r.2),(65, .d (sF (l.p.ws.map Wh.dv))),(66,pI l.p.ws.length),(67,pI i)],⟨[some ((iq l).map .d)],[0],[]⟩⟩)
   (fun i r=>l.p.bounds l.gone b 0 l.p.ws ((l.p.wh b).layer,(l.p.wh b).layer)=l.p.bounds l.gone b i (l.p.ws.drop i) r/\(0<=r.1/\r.1<=1000)/\0<=r.2/\r.2<=1000) 0 ((l.p.wh b).layer,(l.p.wh b).layer) (Y _) rfl ⟨rfl,by simp only[Piece.wh];omega,by simp only[Piece.wh];omega⟩ (fun i r h1 c=> ?_) (fun r c=> ?_)
  ·obtain⟨h2,s,h⟩:=rng h1 (by omega)
   obtain⟨c,f,g⟩:=c;rw[drop_cons h1,Piece.bounds]at c;have v:=hg.ws _ (getD_mem h1);have u:l.p.isW (i:Int):=⟨s,by simpa using h1⟩
   simp only[h2,s,h1,getD_map,S,O,jX,iq,RN,B,E,F,I,J,N]
   repeat' first
    |(refine au (xP l i b u hb) ?_;try simp only[h,RN,B,E,F,I,J,N])
    |(refine au (zC _ _ t) ?_;try simp only[h,RN,B,E,F,I,J,N])
    |(refine aH (by rfl) (fun e=> ?_) (fun e=> ?_)<;>simp only[e,h,RN,B,E,F,I,J,N])
    |(refine aP (by rfl) (fun e=> ?_) (fun e=> ?_)<;>simp only[e,h,RN,B,E,F,I,J,N])
   ·refine bK 1 0 (min r.1 (l.p.ws.getD i default).layer,max r.2 (l.p.ws.getD i default).layer) h1 ?_ ⟨?_,by simp only;omega,by simp only;omega⟩ (by simp) (by simp) rfl rfl
    ·simp only[aht,ahs];rfl
    ·rw[c,if_pos (by simp only[*,b8])]
   ·refine bK 1 0 r h1 rfl ⟨?_,f,g⟩ (by simp) (by simp) rfl rfl
    rw[c,if_neg (by simp_all)]
   ·refine bK 1 0 r h1 rfl ⟨?_,f,g⟩ (by simp) (by simp) rfl rfl
    rw[c,if_neg (by simp_all)]
  ·obtain⟨c,f,g⟩:=c
   rw[ai,Piece.bounds]at c;have w:cr .i64 (r.1+1)=r.1+1:=aF (by omega);have x:cr .i64 (r.2 - 1)=r.2 - 1:=aF (by omega);simp only[Z,iq,getD_map,k,m,jX,O,w,x,RN,B,E,F,I,J,N];refine au (Ns _ _ _) ?_;rw[P9 l.p l.gone (by simp_all) (by simp_all) (by simp_all) (i:=a) (o:=b) (by rw[if_neg];simpa[Piece.wh]using j) (by rw[if_neg];simpa[Piece.wh]using j),c]
   rfl
def Io (l:Laid)(hg:l.p.good)(hf:l.fine)(w:l.gone.length<=1000000)(a b:Int)(ha:l.p.isW a)(hb:l.p.isW b):Pure C 38 [l.dv,dI a,dI b] (pI (l.p.wrong l.gone a b)) []:=by
 refine ah oq iH ?_
 by_cases g:a=b
 ·subst g
  simp only[oq,iH,iZ,beq_self_eq_true,RN,B,E,F,I,J,N]
  repeat' first
   |(refine au (RG l hg a ha) ?_;try simp only[RN,B,E,F,I,J,N])
   |(refine aH (by rfl) (fun c=> ?_) (fun c=> ?_)<;>simp only[c,RN,B,E,F,I,J,N])
   |(refine aP (by rfl) (fun c=> ?_) (fun c=> ?_)<;>simp only[c,RN,B,E,F,I,J,N])
  all_goals(first|(simp only[Piece.wrong, *,BSN];done)|(simp_all[Piece.wrong];done)|(simp_all[Piece.wrong];omega))
 ·have x:(a==b)=false:=by simpa using g
  simp only[oq,iH,iZ,x,RN,B,E,F,I,J,N];refine aG 5 (fun i (_:Unit)=>⟨[(1,pI a),(2,pI b),(25, .d (.agg [.func (.func 95) [l.dv] [], .func (.func 96) [l.dv] [], .func (.func 97) [l.dv] [], .func (.func 98) [l.dv] [], .func (.func 99) [l.dv] []])),(26,pI i)],⟨[some ((iq l).map .d)],[0],[]⟩⟩)
   (fun i _=>(0<i->l.p.apart a b=false)/\(1<i->l.p.touch a b=false)/\(2<i->l.p.same a b=false)/\(3<i->l.p.nested l.gone a b=false)/\(4<i->l.p.JM a b=false)) 0 () (by decide) rfl ⟨by omega,by omega,by omega,by omega,by omega⟩ (fun i _ h1 v=> ?_) (fun _ v=> ?_)
  ·obtain⟨h,j,k,n,u⟩:=v
   have o:((0:Nat):Int)=0:=rfl;have q:((1:Nat):Int)=1:=rfl;have r:((2:Nat):Int)=2:=rfl;have s:((3:Nat):Int)=3:=rfl;have t:((4:Nat):Int)=4:=rfl;have m:((5:Nat):Int)=5:=rfl
   rcases i with _| _| _| _| _|i
   ·have e:cr .i64 ((0:Int)+1)=1:=by decide
    have f:cr .i64 (2+(0:Int))=2:=by decide
    simp only[iq,E,bd,o,q,r,s,t,m,bA,bz,bO,be,bj,bl,bE,bR,bo,RN,B,E,F,I,J,N]
    repeat' first
     |(refine nG rfl (by kernel_rfl) rfl (RD l hg hf a b ha hb) ?_;try simp only[e,f,RN,B,E,F,I,J,N])
     |(refine aH (by rfl) (fun c=> ?_) (fun c=> ?_)<;>simp only[c,e,f,RN,B,E,F,I,J,N])
     |(refine aP (by rfl) (fun c=> ?_) (fun c=> ?_)<;>simp only[c,e,f,RN,B,E,F,I,J,N])
    ·simp only[Piece.wrong,if_neg g,c,if_true,if_false,aq]
    ·exact dX () h1 rfl ⟨by first|exact fun _=>trivial|exact fun _=>c|(intro _;trivial),by omega,by omega,by omega,by omega⟩ (by simp) (by simp) rfl rfl
   ·have e:cr .i64 ((1:Int)+1)=2:=by decide
    have f:cr .i64 (2+(1:Int))=3:=by decide
    simp only[iq,E,bd,o,q,r,s,t,m,bA,bz,bO,be,bj,bl,bE,bR,bo,RN,B,E,F,I,J,N]
    repeat' first
     |(refine nG rfl (by kernel_rfl) rfl (RH l hg hf a b ha hb) ?_;try simp only[e,f,RN,B,E,F,I,J,N])
     |(refine aH (by rfl) (fun c=> ?_) (fun c=> ?_)<;>simp only[c,e,f,RN,B,E,F,I,J,N])
     |(refine aP (by rfl) (fun c=> ?_) (fun c=> ?_)<;>simp only[c,e,f,RN,B,E,F,I,J,N])
    ·simp only[Piece.wrong,if_neg g,h (by omega),c,if_true,if_false,aq]
    ·exact dX () h1 rfl ⟨fun _=>h (by omega),by first|exact fun _=>trivial|exact fun _=>c|(intro _;trivial),by omega,by omega,by omega⟩ (by simp) (by simp) rfl rfl
   ·have e:cr .i64 ((2:Int)+1)=3:=by decide
    have f:cr .i64 (2+(2:Int))=4:=by decide
    simp only[iq,E,bd,o,q,r,s,t,m,bA,bz,bO,be,bj,bl,bE,bR,bo,RN,B,E,F,I,J,N]
    repeat' first
     |(refine nG rfl (by kernel_rfl) rfl (U3 l a b ha hb) ?_;try simp only[e,f,RN,B,E,F,I,J,N])
     |(refine aH (by rfl) (fun c=> ?_) (fun c=> ?_)<;>simp only[c,e,f,RN,B,E,F,I,J,N])
     |(refine aP (by rfl) (fun c=> ?_) (fun c=> ?_)<;>simp only[c,e,f,RN,B,E,F,I,J,N])
    ·simp only[Piece.wrong,if_neg g,h (by omega),j (by omega),c,if_true,if_false,aq]
    ·exact dX () h1 rfl ⟨fun _=>h (by omega),fun _=>j (by omega),by first|exact fun _=>trivial|exact fun _=>c|(intro _;trivial),by omega,by omega⟩ (by simp) (by simp) rfl rfl
   ·have e:cr .i64 ((3:Int)+1)=4:=by decide
    have f:cr .i64 (2+(3:Int))=5:=by decide
    simp only[iq,E,bd,o,q,r,s,t,m,bA,bz,bO,be,bj,bl,bE,bR,bo,RN,B,E,F,I,J,N]
    repeat' first
     |(refine nG rfl (by kernel_rfl) rfl (OW l hg w a b ha hb) ?_;try simp only[e,f,RN,B,E,F,I,J,N])
     |(refine aH (by rfl) (fun c=> ?_) (fun c=> ?_)<;>simp only[c,e,f,RN,B,E,F,I,J,N])
     |(refine aP (by rfl) (fun c=> ?_) (fun c=> ?_)<;>simp only[c,e,f,RN,B,E,F,I,J,N])
    ·simp only[Piece.wrong,if_neg g,h (by omega),j (by omega),k (by omega),c,if_true,if_false,aq]
    ·exact dX () h1 rfl ⟨fun _=>h (by omega),fun _=>j (by omega),fun _=>k (by omega),by first|exact fun _=>trivial|exact fun _=>c|(intro _;trivial),by omega⟩ (by simp) (by simp) rfl rfl
   ·have e:cr .i64 ((4:Int)+1)=5:=by decide
    have f:cr .i64 (2+(4:Int))=6:=by decide
    simp only[iq,E,bd,o,q,r,s,t,m,bA,bz,bO,be,bj,bl,bE,bR,bo,RN,B,E,F,I,J,N]
    repeat' first
     |(refine nG rfl (by kernel_rfl) rfl (OX l hg a b ha hb) ?_;try simp only[e,f,RN,B,E,F,I,J,N])
     |(refine aH (by rfl) (fun c=> ?_) (fun c=> ?_)<;>simp only[c,e,f,RN,B,E,F,I,J,N])
     |(refine aP (by rfl) (fun c=> ?_) (fun c=> ?_)<;>simp only[c,e,f,RN,B,E,F,I,J,N])
    ·simp only[Piece.wrong,if_neg g,h (by omega),j (by omega),k (by omega),n (by omega),c,if_true,if_false,aq]
    ·exact dX () h1 rfl ⟨fun _=>h (by omega),fun _=>j (by omega),fun _=>k (by omega),fun _=>n (by omega),by first|exact fun _=>trivial|exact fun _=>c|(intro _;trivial)⟩ (by simp) (by simp) rfl rfl
   ·omega
  ·obtain⟨h,j,k,n,u⟩:=v
   have h:=h (by omega);have j:=j (by omega);have k:=k (by omega);have n:=n (by omega);have u:=u (by omega);have m:((5:Nat):Int)=5:=rfl;simp only[iq,m,Z,RN,B,E,F,I,J,N];simp only[Piece.wrong,if_neg g,h,j,k,n,u,if_false,aq]
def Piece.Zj (h:p.ok=true):(1<=p.cs.length/\p.cs.length<=6)/\p.ws.length<=8/\p.ms.length<=10:=by
 simp only[Piece.ok,Piece.Bq,inR,V,decide_eq_true_eq,bi,decide_eq_false_iff_not,ge_iff_le,gt_iff_lt]at h;omega
def Qm {w h:Int}:∀{pre cs:List Pt},AA w h pre cs=true->∀c∈cs,0<=c.x/\c.x<=w/\0<=c.y/\c.y<=h
 | _,[],_,c,a=>by cases a
 |pre,d::cs,b,c,a=>by
  simp only[AA,inR,V,decide_eq_true_eq,ge_iff_le]at b
  rcases bX.1 a with rfl|a
  ·omega
  ·exact Qm b.2 c a
def Piece.IB (h:p.ok=true):p.good:=by
 have f:=Piece.Zj h;simp only[Piece.ok,Piece.DL,V]at h;obtain⟨⟨⟨⟨hh,_⟩,d⟩,g⟩,e⟩:=h;simp only[inR,V,decide_eq_true_eq,ge_iff_le]at hh;refine⟨fun c b=> ?_,fun w a=> ?_,by omega,by omega,by omega,by omega,by omega,by omega⟩
 ·have:=Qm d c b
  omega
 ·have:=a8.1 e w a
  simp only[FH,inR,V,decide_eq_true_eq,ge_iff_le]at this;omega
def Piece.NP (h:p.ok=true):∀w∈p.ws,4<=w.aO/\w.aO<=50/\0<=w.layer/\w.layer<=5/\0<=w.nD/\w.nD<=2:=by
 simp only[Piece.ok,V]at h;intro w a;have:=a8.1 h.2 w a;simp only[FH,inR,V,decide_eq_true_eq,ge_iff_le]at this;omega
def Piece.ctr (p:Piece)(w:Wh):Pt:=p.cs.getD w.iY.toNat default
def Piece.xs (p:Piece):List Wh->List Int
 | []=>[]
 |w::ws=>((p.ctr w).x - w.aO)::((p.ctr w).x+w.aO)::Piece.xs p ws
def Piece.ys (p:Piece):List Wh->List Int
 | []=>[]
 |w::ws=>((p.ctr w).y - w.aO)::((p.ctr w).y+w.aO)::Piece.ys p ws
def maxL (l:List Int):Int:=(l.drop 1).foldl max (l.getD 0 default)
def minL (l:List Int):Int:=(l.drop 1).foldl min (l.getD 0 default)
def Piece.frame (p:Piece):Int×Int×Int:=
 if p.ok then(if p.ws.length=0 then(0,0,5)else(maxL (p.xs p.ws) - minL (p.xs p.ws),maxL (p.ys p.ws) - minL (p.ys p.ws),0))else(0,0,2)
def take_snoc {α:Type}[Inhabited α]{l:List α}{i:Nat}(h:i<l.length):l.take (i+1)=l.take i++ [l.getD i default]:=by
 rw[List.take_add_one,ae h,ab,ae h];rfl
variable{k v s:Nat}
def aci {l:List PV}:gU (.tsl k v s::l)=none:=rfl
def aau (xs:List DV)(hf:∀y∈xs,y.fits 2=true)(hl:xs.length<=1000000):Pure C 143 [.slice false xs] (.tsl 0 0 0) [⟨2,xs,0,0⟩]:=by
 refine iF kC aS ?_;simp only[kC,aS,RN,B,E,F,I,J,N];refine⟨fun a=> ?_,fun a b=> ?_⟩
 ·exact⟨hf,by simp,by simp,by omega,jL (k:=1) (A:=⟨2,xs,0,0⟩) rfl rfl (Y _) rfl⟩
 ·subst a
  cases b
  ·(try simp only[RN,B,E,F,I,J,N])
   refine⟨?_,?_,?_,jL (k:=1) (A:=⟨2,[],0,0⟩) rfl rfl (Y _) rfl⟩<;>simp
  ·(try simp only[RN,B,E,F,I,J,N])
   exact jL (k:=1) (A:=⟨2,[],0,0⟩) rfl rfl (Y _) rfl
def aav (xs:List DV)(hf:∀y∈xs,y.fits 4=true)(hl:xs.length<=1000000):Pure C 144 [.slice false xs] (.tsl 0 0 0) [⟨4,xs,0,0⟩]:=by
 refine iF kD aS ?_;simp only[kD,aS,RN,B,E,F,I,J,N];refine⟨fun a=> ?_,fun a b=> ?_⟩
 ·exact⟨hf,by simp,by simp,by omega,jL (k:=1) (A:=⟨4,xs,0,0⟩) rfl rfl (Y _) rfl⟩
 ·subst a
  cases b
  ·(try simp only[RN,B,E,F,I,J,N])
   refine⟨?_,?_,?_,jL (k:=1) (A:=⟨4,[],0,0⟩) rfl rfl (Y _) rfl⟩<;>simp
  ·(try simp only[RN,B,E,F,I,J,N])
   exact jL (k:=1) (A:=⟨4,[],0,0⟩) rfl rfl (Y _) rfl
def aat (xs:List DV)(hf:∀y∈xs,y.fits 2=true)(hl:xs.length<=1000000):Pure C 145 [.slice false xs] (.tsl 0 0 0) [⟨2,xs,0,0⟩]:=by
 refine iF kN aS ?_;simp only[kN,aS,RN,B,E,F,I,J,N];refine⟨fun a=> ?_,fun a b=> ?_⟩
 ·exact⟨hf,by simp,by simp,by omega,jL (k:=1) (A:=⟨2,xs,0,0⟩) rfl rfl (Y _) rfl⟩
 ·subst a
  cases b
  ·(try simp only[RN,B,E,F,I,J,N])
   refine⟨?_,?_,?_,jL (k:=1) (A:=⟨2,[],0,0⟩) rfl rfl (Y _) rfl⟩<;>simp
  ·(try simp only[RN,B,E,F,I,J,N])
   exact jL (k:=1) (A:=⟨2,[],0,0⟩) rfl rfl (Y _) rfl
def agI (xs:List Pt):∀y∈xs.map Pt.dv,y.fits 2=true:=by
 intro y a;obtain⟨n,_,rfl⟩:=bc.1 a;rfl
def ahe (xs:List Wh):∀y∈xs.map Wh.dv,y.fits 4=true:=by
 intro y a;obtain⟨n,_,rfl⟩:=bc.1 a;rfl
def agz (xs:List Ms):∀y∈xs.map Ms.dv,y.fits 2=true:=by
 intro y a;obtain⟨n,_,rfl⟩:=bc.1 a;rfl
def Piece.with (p:Piece)(at_:Pt)(layer aO:Int)(a:List Int):Piece:=
 {p with cs:=p.cs++ [at_],ws:=p.ws++ [⟨p.cs.length,0,layer,aO⟩],ms:=p.ms++a.map fun m=>⟨m,p.ws.length⟩}
def SQ {n k v s:Nat}:PV.shift n (.tsl k v s)= .tsl (n+k) v s:=rfl
def YW:PV.cells (.tsl k v s)=[.tsl k v s]:=rfl
def Zk:PV.one (.tsl k v s)=true:=rfl
variable{sz:Nat}
def aaM {C:Ctx}{z:DV}:ak C base (.dA sz [z] [0]) [.d (.agg [dI a,dI b])] M K KP=(2=sz/\K (.d (.slice true [.agg [dI a,dI b]])) M):=by
 rw[dV];rfl
def NJ {α:Type}{f:α->α}{a:α}:∀{l:List α} {k:Nat},(l.set k a).modify k f=l.set k (f a)
 | [],k=>by simp
 |x::l,0=>by simp
 |x::l,k+1=>by simp only[List.set_cons_succ,List.modify_succ_cons,NJ]
variable{ar:List (Option Arr)}
def YZ {C:Ctx}{bs:List (Option (List PV))}{fz:List Nat}{ver skip st:Nat}{xs ys:List DV}{ex:Bool}(h:ar[k]?=some (some ⟨sz,xs,ver,st⟩))(a:st≠2)(b:0<sz)(hf:∀y∈ys,y.fits sz=true)
  (hl:xs.length+ys.length<=1073741824)(c:K (.d (sF (xs.drop skip++ys))) ⟨bs,fz,ar.set k (some ⟨sz,xs.drop skip++ys,ver+1,2⟩)⟩):ak C base (.QN sz) [.tsl k ver skip, .d (.slice ex ys)] ⟨bs,fz,ar⟩ K KP:=by
 have f:k<ar.length:=(ax.1 h).1;simp only[ak,acp,h,TG];refine⟨b,hf,fun hh=>(by cases hh),trivial,trivial,a,hl,DV.slice false (xs.drop skip++ys),?_,?_⟩
 ·simp[datum,Lh,f]
 ·have e:(⟨bs,fz,ar.set k (some ⟨sz,xs.drop skip++ys,ver+1,bif false then 1 else st⟩)⟩:Mem).frz [.tsl k (ver+1) 0]=⟨bs,fz,ar.set k (some ⟨sz,xs.drop skip++ys,ver+1,2⟩)⟩:=by
   simp only[Mem.frz,kG,kF,cf,ch,bq,bu,FB,cl,cm,NJ,bw]
  rw[e];exact c
def ae8 (p:Piece)(at_:Pt)(layer aO:Int)(a:List Int)(hc:p.cs.length<=1000)(g:p.ws.length<=1000)(f:p.ms.length<=1000)(ho:a.length<=1000):
  Pure C 80 [p.dv,at_.dv,dI layer,dI aO,sF (a.map ay)] (.d (p.with at_ layer aO a).dv) []:=by
 refine O4 mixed rfl OZ ?_;have b:cr .i64 (((p.cs.length+1:Nat):Int) - 1)=p.cs.length:=by rw[aF (by omega)];omega
 simp only[F8,aes,fD,sK,O,RN,B,E,F,I,J,N];refine pR rfl rfl (aau _ (agI p.cs) (by simp;omega)) (by simp) ?_;simp only[SQ,aw,bd,aE,bB,bu];refine⟨rfl,YZ rfl (by decide) (by decide) (by simp[DV.strip,DV.fits,DV.cells,DV.one]) (by simp;omega) ?_⟩;simp only[O,DV.strip,am,RN,B,E,F,I,J,N];refine pR rfl rfl (aav _ (ahe p.ws) (by simp;omega)) (by simp) ?_;simp only[SQ,b,am,O,RN,B,E,F,I,J,N];refine YZ rfl (by decide) (by decide) (by simp[DV.fits,DV.cells,DV.one]) (by simp;omega) ?_;simp only[O,DV.strip,am,RN,B,E,F,I,J,N];refine pR rfl rfl (aat _ (agz p.ms) (by simp;omega)) (by simp) ?_;simp only[SQ,O,YW,Zk,RN,B,E,F,I,J,N];refine aG a.length (fun i (_:Unit)=>⟨[(5, .ptr 0 0),(10, .ptr 2 0),(11,pI p.ws.length),(41, .d (sF (a.map ay))),(42,pI a.length),(43,pI i)],
   ⟨[some [pI p.w,pI p.h,pI p.pl,pI p.ga,pI p.po, .d (sF (p.cs.map Pt.dv++ [.agg [dI at_.x,dI at_.y]])), .d (sF (p.ws.map Wh.dv++ [.agg [dI p.cs.length,dI 0,dI layer,dI aO]])), .tsl 2 i 0],
    some [pI at_.x,pI at_.y],some [pI 0,pI 0,pI 0,pI 0,pI 0, .d (.slice true []), .d (.slice true []), .d (.slice true [])]],[1],
    [some ⟨2,p.cs.map Pt.dv++ [.agg [dI at_.x,dI at_.y]],1,2⟩,some ⟨4,p.ws.map Wh.dv++ [.agg [dI p.cs.length,dI 0,dI layer,dI aO]],1,2⟩,some ⟨2,p.ms.map Ms.dv++(a.take i).map (fun m=>Ms.dv ⟨m,p.ws.length⟩),i,0⟩]⟩⟩)
  (fun _ _=>True) 0 () (Y _) (by simp) trivial (fun i _ h1 _=> ?_) (fun _ _=> ?_)
 ·obtain⟨h2,c,e⟩:=rng h1 (by omega)
  simp only[h2,c,h1,e,getD_map,S,O,aZ,aaM,forall_eq,am,YW,Zk,RN,B,E,F,I,J,N];refine⟨rfl,rfl,fun hh=>(by cases hh),(by simp;omega),?_⟩;refine dX () h1 ?_ trivial (by simp) (by simp) rfl rfl;rw[take_snoc h1,br,<-List.append_assoc]
  rfl
 ·simp only[Z,List.take_length,O,aci,bv,dB,PV.cells,Zk,RN,B,E,F,I,J,N]
  simp[datum,bW,dS,Lh,fD,Piece.with,sK,jX]
def dvL (l:List Int):DV:=sF (l.map ay)
def FI (o:PV)(ar:List (Option Arr))(a:List (List Int)):Prop:=
 (o= .d (.slice true [])/\a=[])\/∃k ver,o= .tsl k ver 0/\ar[k]?=some (some ⟨1,a.map dvL,ver,0⟩)
def FI.upto {o:PV}{ar:List (Option Arr)}{a:List (List Int)}(h:FI o ar a)(n:Nat):o.upto n ar.length=true:=by
 rcases h with⟨rfl,_⟩|⟨k,ver,rfl,h⟩
 ·rfl
 ·simpa[PV.upto]using(ax.1 h).1
def FI.one {o:PV}{ar:List (Option Arr)}{a:List (List Int)}(h:FI o ar a):o.cells=[o]/\o.one=true:=by
 rcases h with⟨rfl,_⟩|⟨k,ver,rfl,_⟩<;>exact⟨rfl,rfl⟩
def FI.more {o:PV}{a:List (List Int)}(h:FI o ar a)(x:List (Option Arr)):FI o (ar++x) a:=by
 rcases h with h|⟨k,ver,rfl,h⟩
 ·exact .inl h
 ·exact .inr ⟨k,ver,rfl,by rw[List.getElem?_append_left (ax.1 h).1];exact h⟩
def FI.set {o:PV}{ar:List (Option Arr)}{a:List (List Int)}(h:FI o ar a){x y:Option Arr}:FI o ((ar++ [x]).set ar.length y) a:=by
 have:=h.more [y]
 simpa using this
end Go.Tel
namespace Go.Am
def Em {C:Ctx}(u:C.P.follows .mixedOrders=true){f:FuncId}{ds:List DV}{x:DV}{pc:aA}{m:List iw}{a:Nat}(z:(ds.map PV.d).length=a)(hc:zL C.P f a pc m=true)
  (h:pwp C 0 0 pc (LG m (fun p M=>∃y,datum M p=some y/\y.strip=x) (fun _ _=>False)) ⟨qw 0 (ds.map .d),bg⟩):Pure C f ds (.d x) []:=by
 have j:SC C f (ds.map .d) bg (fun p M=>∃y,datum M p=some y/\y.strip=x) (fun _ _=>False):=AL u z hc h;intro X w g s t D B;refine(j X w ⟨[],[]⟩ g (AO s t D) (aK.ofD (B.weaken ql))).mono fun e E i=> ?_
 cases e with
 |returned v=>
  obtain⟨p,k,n,⟨y,hd,rfl⟩,h2,o,r⟩:=i;have l:uP k []:=⟨fun q A=>(by cases A),List.nodup_nil⟩
  exact⟨v,_,rfl,Jh h2 l,DI o l, .d (((je (ps:=[p]) h2 r hd (by simp)).weaken fun b hb=> .inl (ql b hb)).strip)⟩
 |panicked c=>
  obtain⟨v,d,k,n,_,hh,_⟩:=i;exact hh.elim
 |outgrown=>exact i.elim
end Go.Am
namespace Go.Tel
open Go.Am
def upTo (n:Nat):List Int:=(List.range n).map Int.ofNat
def AQ (n:Nat):(upTo n).length=n:=by simp[upTo]
def Laid.cells (l:Laid):List DV:=[dI l.p.w,dI l.p.h,dI l.p.pl,dI l.p.ga,dI l.p.po,sF (l.p.cs.map Pt.dv),sF (l.p.ws.map Wh.dv),sF (l.p.ms.map Ms.dv),
  .map (some (l.mm.map fun m=>(m.dv, .bool true))),sF (l.gone.map ay)]
def J5 {n i:Nat}(h:i<n):(upTo n).getD i default=i:=by
 simp[upTo,ab,h]
def ahd {n:Nat}(h:n<=1000000):cr .i64 ((n:Int)+1)=((n+1:Nat):Int):=by rw[aF (by omega)];omega
def Ip:List Ms->List Ms->List Ms
 |mm,[]=>mm
 |mm,m::l=>Ip (if mm.contains m then mm else mm++ [m]) l
def DT (x:Ms):∀(l mm:List Ms),(Ip mm l).contains x=(mm.contains x||l.contains x)
 | [],mm=>by simp[Ip]
 |m::l,mm=>by
  rw[Ip,DT x l]
  by_cases h:mm.contains m=true
  ·rw[if_pos h,aM]
   by_cases a:x=m
   ·subst a;rw[h];simp
   ·have:(x==m)=false:=by simp[a]
    rw[this,bS]
  ·rw[if_neg h,aM,List.contains_append,aM,List.contains_nil,Bool.or_false,Bool.or_assoc]
def Piece.laid (p:Piece)(gone:List Int):Laid:=⟨p,Ip [] p.ms,gone⟩
def Piece.PY (p:Piece)(gone:List Int):(p.laid gone).fine:=fun m=>by rw[Piece.laid,DT];rfl
def ajv:Prop:=∀(p:Piece) (gone:List Int),p.ms.length<=1000->gone.length<=1000->Pure C 37 [p.dv,sF (gone.map ay)] (.d (p.laid gone).dv) []
structure Flt where
 a:Int
 b:Int
 kind:Int
 deriving DecidableEq,Inhabited
def Flt.dv (f:Flt):DV:= .agg [dI f.a,dI f.b,dI f.kind]
end Go.Tel
namespace Go.Am
variable{K:St->Prop}{t:Nat}{ts:List Nat}{env:List (Nat×PV)}
def adf {x:DV}{M:Mem}:Ii (.d x) t ts K env M=qW ts K ⟨(t, .d x)::env,M⟩:=by
 simp only[Ii,datum];rw[show M.frz [PV.d x]=M from zT (ds:=[x])]
def adg {k ver skip sz st:Nat}{xs:List DV}{bs:List (Option (List PV))}{fz:List Nat}{ar:List (Option Arr)}(h:ar[k]?=some (some ⟨sz,xs,ver,st⟩))
  (b:qW ts K ⟨(t, .d (sF (xs.drop skip)))::env,⟨bs,fz,ar.set k (some ⟨sz,xs,ver,2⟩)⟩⟩):Ii (.tsl k ver skip) t ts K env ⟨bs,fz,ar⟩:=by
 have c:=(ax.1 h).1;simp only[Ii,aaB h rfl];have e:(⟨bs,fz,ar⟩:Mem).frz [.tsl k ver skip]=⟨bs,fz,ar.set k (some ⟨sz,xs,ver,2⟩)⟩:=by
  simp only[Mem.frz,kG,kF,cf,ch,bq,bu,FB,cl,cm]
  congr 1
  apply List.ext_getElem?;intro i;rw[List.getElem?_modify,List.getElem?_set]
  by_cases a:k=i
  ·subst a
   simp[h,c];exact⟨_,(ax.1 h).2,rfl,rfl,rfl⟩
  ·simp[a]
 rw[e];exact b
end Go.Am
namespace Go.Tel
open Go.Am
def Qk:aA:=(.loop (.seq (.region false [⟨some 82, .bin .lss,[.t 81, .t 80],none,0⟩] 0 [1,2,4,8,10,11,80,81,82] []) (.seq (.cond (.t 82) .skip (.exit 0)) (.seq (.block 1 (.seq (.region false [⟨some 83, .mov,[.t 81],none,0⟩,⟨some 12, .mov,[.t 83],none,0⟩] 0 [1,2,4,8,10,11,12,80,81] []) (.scope (.seq (.label 0) (.seq (.region false [⟨some 84, .fld 1,[.t 4],none,0⟩,⟨some 85, .load false 1,[.t 84],none,0⟩,⟨some 86, .bin .add,[.t 85, .c (dI 1)],none,0⟩,⟨some 87, .mov,[.c (dI 0)],none,0⟩] 0 [1,2,4,8,10,11,12,80,81,86,87] []) (.block 2 (.loop (.seq (.region false [⟨some 88, .bin .lss,[.t 87, .t 86],none,0⟩] 0 [1,2,4,8,10,11,12,80,81,86,87,88] []) (.seq (.cond (.t 88) .skip (.exit 2)) (.seq (.block 3 (.seq (.region false [⟨some 89, .mov,[.t 87],none,0⟩,⟨some 13, .mov,[.t 89],none,0⟩] 0 [1,2,4,8,10,11,12,13,80,81,86,87] []) (.seq (.region false [⟨some 90, .mov,[.t 12],none,0⟩,⟨some 91, .mov,[.t 13],none,0⟩,⟨some 92, .build [dI 0,dI 0] [(0,1),(1,1)],[.t 90, .t 91],none,0⟩,⟨some 14, .alloc 0 [dI 0,dI 0],[],none,0⟩,⟨none, .store 2,[.t 14, .t 92],none,0⟩] 1 [1,2,4,8,10,11,12,14,80,81,86,87] [14]) (.seq (.seq (.region false [⟨some 93, .fld 5,[.t 4],none,0⟩,⟨some 94, .load false 1,[.t 93],none,0⟩,⟨some 95, .load true 2,[.t 14],none,0⟩,⟨some 96, .aj 79,[.t 94, .t 95],none,0⟩] 0 [1,2,4,8,10,11,12,14,80,81,86,87,96] []) (.cond (.t 96) (.exit 3) .skip)) (.seq (.region true [⟨some 97, .load true 8,[.t 4],none,1⟩,⟨some 98, .load true 2,[.t 14],none,1⟩,⟨some 99, .fld 6,[.t 4],none,1⟩,⟨some 100, .load false 1,[.t 99],none,1⟩,⟨some 101, .mov,[.t 2],none,0⟩,⟨some 102, .bU 4,[.t 100, .t 101],none,1⟩,⟨some 103, .fld 2,[.t 102],none,1⟩,⟨some 104, .load false 1,[.t 103],none,1⟩,⟨some 105, .mov,[.t 1],none,0⟩,⟨some 106, .mov,[.t 10],none,0⟩,⟨some 107, .nZ 80,[.t 97, .t 98, .t 104, .t 105, .t 106],none,1⟩,⟨some 108, .aj 37,[.t 107, .c (.slice true [])],none,0⟩,⟨some 15, .alloc 0 [dI 0,dI 0,dI 0,dI 0,dI 0, .slice true [], .slice true [], .slice true [], .map none, .slice true []],[],none,0⟩,⟨none, .store 10,[.t 15, .t 108],none,4⟩] 1 [1,2,4,8,10,11,12,14,15,80,81,86,87] [15]) (.seq (.seq (.region false [⟨some 109, .mov,[.t 11],none,0⟩,⟨some 110, .bin .add,[.t 109, .c (dI 1)],none,0⟩,⟨some 111, .mov,[.c (dI 0)],none,0⟩] 0 [1,2,4,8,10,11,12,14,15,80,81,86,87,110,111] []) (.block 4 (.loop (.seq (.region false [⟨some 112, .bin .lss,[.t 111, .t 110],none,0⟩] 0 [1,2,4,8,10,11,12,14,15,80,81,86,87,110,111,112] []) (.seq (.cond (.t 112) .skip (.exit 4)) (.seq (.block 5 (.seq (.region false [⟨some 113, .mov,[.t 111],none,0⟩,⟨some 16, .mov,[.t 113],none,0⟩] 0 [1,2,4,8,10,11,12,14,15,16,80,81,86,87,110,111] []) (.seq (.region false [⟨some 114, .load true 10,[.t 15],none,0⟩,⟨some 115, .mov,[.t 16],none,0⟩,⟨some 116, .mov,[.t 11],none,0⟩,⟨some 117, .aj 38,[.t 114, .t 115, .t 116],none,0⟩,⟨some 118, .bin .neq,[.t 117, .c (dI 0)],none,0⟩] 0 [1,2,4,8,10,11,12,14,15,80,81,86,87,110,111,118] []) (.cond (.t 118) (.exit 3) .skip)))) (.region false [⟨some 119, .bin .add,[.t 111, .c (dI 1)],none,0⟩,⟨some 111, .mov,[.t 119],none,0⟩] 0 [1,2,4,8,10,11,12,14,15,80,81,86,87,110,111] []))))))) (.seq (.region false [⟨some 120, .load true 2,[.t 14],none,0⟩,⟨none, .store 2,[.t 8, .t 120],none,0⟩,⟨some 9, .mov,[.c (dI 0)],none,0⟩] 0 [8,9] []) .ret))))))) (.region false [⟨some 121, .bin .add,[.t 87, .c (dI 1)],none,0⟩,⟨some 87, .mov,[.t 121],none,0⟩] 0 [1,2,4,8,10,11,12,80,81,86,87] []))))))))))) (.region false [⟨some 122, .bin .add,[.t 81, .c (dI 1)],none,0⟩,⟨some 81, .mov,[.t 122],none,0⟩] 0 [1,2,4,8,10,11,80,81] [])))))
def Piece.Yh (p:Piece)(aO a:Int)(b:List Int)(x y:Int):Bool:=
 !p.cs.contains ⟨x,y⟩&&(upTo (p.ws.length+1)).all fun i=>(p.with ⟨x,y⟩ (p.ws.getD a.toNat default).layer aO b).wrong [] i p.ws.length==0
def Piece.Yl (p:Piece)(aO a:Int)(b:List Int)(x:Int):Option Pt:=
 (upTo (p.h.toNat+1)).findSome? fun y=>if p.Yh aO a b x y then some ⟨x,y⟩else none
def Piece.Sl (p:Piece)(aO a:Int)(b:List Int):Option Pt:=(upTo (p.w.toNat+1)).findSome? fun x=>p.Yl aO a b x
def abU {p:Piece}(hg:p.good){x y layer aO:Int}{a:List Int}(hx:0<=x/\x<=1000)(f:0<=y/\y<=1000)(e:0<=aO/\aO<=1000)(hl:0<=layer/\layer<=1000)(i:p.ws.length<=999):(p.with ⟨x,y⟩ layer aO a).good:={
 cs:=by
  intro c b;simp only[Piece.with,a6,az]at b
  rcases b with b|rfl
  ·exact hg.cs c b
  ·exact⟨hx.1,hx.2,f.1,f.2⟩
 ws:=by
  intro w d;simp only[Piece.with,a6,az]at d
  rcases d with d|rfl
  ·obtain⟨⟨h1,h2⟩,g⟩:=hg.ws w d
   exact⟨⟨h1,by simp only[Piece.with,am,a7];omega⟩,g⟩
  ·exact⟨⟨by simp only;omega,by simp[Piece.with]⟩,e.1,e.2,hl.1,hl.2⟩
 w:=hg.w
 h:=hg.h
 pl:=hg.pl
 ga:=hg.ga
 po:=hg.po
 lw:=by simp only[Piece.with,am,a7];omega}
section
variable (adq:ajv)
include adq in
def Gj (p:Piece)(hg:p.good)(hc:p.cs.length<=900)(hn:p.ws.length<=900)(hm:p.ms.length<=900)(aO a:Int)(T:0<=aO/\aO<=1000)(ha:p.isW a)(b:List Int)(ho:b.length<=100)(ex:Bool)(ar:List (Option Arr))(Q:Ex->St->Prop)
  (P:p.Sl aO a b=none->Q (.exit 0) ⟨[(1,pI aO),(2,pI a),(4, .d (.aV [dI p.w,dI p.h,dI p.pl,dI p.ga,dI p.po,sF (p.cs.map Pt.dv),sF (p.ws.map Wh.dv),sF (p.ms.map Ms.dv)])),(8, .ptr 1 0),(10, .d (.slice ex (b.map ay))),(11,pI p.ws.length),(80,pI (p.w.toNat+1:Nat)),(81,pI (p.w.toNat+1:Nat)),(82, .d (.bool false))],⟨[some [pI p.w,pI p.h,pI p.pl,pI p.ga,pI p.po, .d (sF (p.cs.map Pt.dv)), .d (sF (p.ws.map Wh.dv)), .d (sF (p.ms.map Ms.dv))],some [pI 0,pI 0]],[0],ar⟩⟩)
  (hs:∀pt bs fz,p.Sl aO a b=some pt->Q .ret ⟨[(8, .ptr 1 0),(9,pI 0)],⟨some [pI p.w,pI p.h,pI p.pl,pI p.ga,pI p.po, .d (sF (p.cs.map Pt.dv)), .d (sF (p.ws.map Wh.dv)), .d (sF (p.ms.map Ms.dv))]::some [pI pt.x,pI pt.y]::bs,fz,ar⟩⟩):
  pwp C 0 0 Qk Q
   ⟨[(1,pI aO),(2,pI a),(4, .d (.aV [dI p.w,dI p.h,dI p.pl,dI p.ga,dI p.po,sF (p.cs.map Pt.dv),sF (p.ws.map Wh.dv),sF (p.ms.map Ms.dv)])),(8, .ptr 1 0),(10, .d (.slice ex (b.map ay))),(11,pI p.ws.length),(80,pI (p.w.toNat+1:Nat)),(81,pI 0)],
    ⟨[some [pI p.w,pI p.h,pI p.pl,pI p.ga,pI p.po, .d (sF (p.cs.map Pt.dv)), .d (sF (p.ws.map Wh.dv)), .d (sF (p.ms.map Ms.dv))],some [pI 0,pI 0]],[0],ar⟩⟩:=by
 rw[Qk];have V:=hg.w;have R:=hg.h;have el:((p.h.toNat:Nat):Int)=p.h:=by omega
 have L:cr .i64 (p.h+1)=((p.h.toNat+1:Nat):Int):=by rw[aF (by omega)];omega
 refine aG (p.w.toNat+1) (fun x (_:Unit)=>⟨[(1,pI aO),(2,pI a),(4, .d (.aV [dI p.w,dI p.h,dI p.pl,dI p.ga,dI p.po,sF (p.cs.map Pt.dv),sF (p.ws.map Wh.dv),sF (p.ms.map Ms.dv)])),(8, .ptr 1 0),(10, .d (.slice ex (b.map ay))),(11,pI p.ws.length),(80,pI (p.w.toNat+1:Nat)),(81,pI x)],
   ⟨[some [pI p.w,pI p.h,pI p.pl,pI p.ga,pI p.po, .d (sF (p.cs.map Pt.dv)), .d (sF (p.ws.map Wh.dv)), .d (sF (p.ms.map Ms.dv))],some [pI 0,pI 0]],[0],ar⟩⟩)
  (fun x _=>p.Sl aO a b=((upTo (p.w.toNat+1)).drop x).findSome? fun x=>p.Yl aO a b x) 0 () (Y _) rfl rfl (fun x _ s f=> ?_) (fun _ f=> ?_)
 ·obtain⟨x2,x3,x6⟩:=rng s (by omega)
  rw[drop_cons (by rw[AQ];exact s),J5 s,b7]at f;simp only[x2,L,RN,B,E,F,I,J,N];refine aG (p.h.toNat+1) (fun y (_:Unit)=>⟨[(1,pI aO),(2,pI a),(4, .d (.aV [dI p.w,dI p.h,dI p.pl,dI p.ga,dI p.po,sF (p.cs.map Pt.dv),sF (p.ws.map Wh.dv),sF (p.ms.map Ms.dv)])),(8, .ptr 1 0),(10, .d (.slice ex (b.map ay))),(11,pI p.ws.length),(12,pI x),(80,pI (p.w.toNat+1:Nat)),(81,pI x),(86,pI (p.h.toNat+1:Nat)),(87,pI y)],⟨[some [pI p.w,pI p.h,pI p.pl,pI p.ga,pI p.po, .d (sF (p.cs.map Pt.dv)), .d (sF (p.ws.map Wh.dv)), .d (sF (p.ms.map Ms.dv))],some [pI 0,pI 0]],[0],ar⟩⟩)
   (fun y _=>p.Yl aO a b x=((upTo (p.h.toNat+1)).drop y).findSome? fun y=>if p.Yh aO a b x y then some ⟨x,y⟩else none) 0 () (Y _) rfl rfl (fun y _ o c=> ?_) (fun _ c=> ?_)
  ·obtain⟨y2,y3,H⟩:=rng o (by omega)
   rw[drop_cons (by rw[AQ];exact o),J5 o,b7]at c;have l:=H7 p.cs ⟨x,y⟩ (by omega);rw[sK]at l;simp only[y2,RN,B,E,F,I,J,N];refine au l ?_;cases D:p.cs.contains ⟨x,y⟩
   ·obtain⟨K,A⟩:=ha
    have W:=hg.ws _ (getD_mem A);have g:=ae8 p ⟨x,y⟩ (p.ws.getD a.toNat default).layer aO b (by omega) (by omega) (by omega) (by omega);obtain⟨q,m⟩:∃q,q=p.with ⟨x,y⟩ (p.ws.getD a.toNat default).layer aO b:=⟨_,rfl⟩
    have v:q.good:=by rw[m];exact abU hg (by omega) (by omega) T (by omega) (by omega)
    have S:q.ws.length=p.ws.length+1:=by rw[m];simp[Piece.with]
    have z:q.ms.length<=1000:=by rw[m];simp only[Piece.with,am,O];omega
    have alg:p.Yh aO a b x y=(upTo (p.ws.length+1)).all fun i=>q.wrong [] i p.ws.length==0:=by rw[Piece.Yh,D,m];rfl
    rw[<-m]at g;have G:=adq q [] z (by simp);have M:cr .i64 ((p.ws.length:Int)+1)=((p.ws.length+1:Nat):Int):=ahd (by omega);simp only[fD,sK]at g;simp only[fD]at G;simp only[getD_map,K,A,O,jX,U,RN,B,E,F,I,J,N];refine pR rfl rfl g (by simp) ?_;simp only[PV.shift,jE,bB,bq];refine au G ?_;simp only[iZ];simp only[U,M,RN,B,E,F,I,J,N];refine aG (p.ws.length+1) (fun i (_:Unit)=>⟨[(1,pI aO),(2,pI a),(4, .d (.aV [dI p.w,dI p.h,dI p.pl,dI p.ga,dI p.po,sF (p.cs.map Pt.dv),sF (p.ws.map Wh.dv),sF (p.ms.map Ms.dv)])),(8, .ptr 1 0),(10, .d (.slice ex (b.map ay))),(11,pI p.ws.length),(12,pI x),(14, .d (.aV [dI x,dI y])),(15, .d (.aV (q.laid []).cells)),(80,pI (p.w.toNat+1:Nat)),(81,pI x),(86,pI (p.h.toNat+1:Nat)),(87,pI y),(110,pI (p.ws.length+1:Nat)),(111,pI i)],
      ⟨[some [pI p.w,pI p.h,pI p.pl,pI p.ga,pI p.po, .d (sF (p.cs.map Pt.dv)), .d (sF (p.ws.map Wh.dv)), .d (sF (p.ms.map Ms.dv))],some [pI 0,pI 0],some [pI x,pI y],some ((q.laid []).cells.map .d)],[3,2,0],ar⟩⟩)
     (fun i _=>p.Yh aO a b x y=((upTo (p.ws.length+1)).drop i).all fun i=>q.wrong [] i p.ws.length==0) 0 () (Y _) rfl alg (fun i _ r e=> ?_) (fun _ e=> ?_)
    ·obtain⟨X,i3,i6⟩:=rng r (by omega)
     rw[drop_cons (by rw[AQ];exact r),J5 r,ca]at e;have n:Pure C 38 [(q.laid []).dv,dI i,dI p.ws.length] (pI (q.wrong [] i p.ws.length)) []:=Io (q.laid []) v (Piece.PY q []) (by simp[Piece.laid]) i p.ws.length ⟨by omega,by show _<q.ws.length;omega⟩ ⟨by omega,by show _<q.ws.length;omega⟩;rw[iZ]at n;simp only[X,Laid.cells,RN,B,E,F,I,J,N];refine au n ?_
     by_cases t:q.wrong [] i p.ws.length=0
     ·have j:(q.wrong [] i p.ws.length !=0)=false:=by rw[t];rfl
      have k:(q.wrong [] i p.ws.length==0)=true:=by rw[t];rfl
      rw[k,av]at e;simp only[j,i6,RN,B,E,F,I,J,N];exact dX () r rfl e (by simp) (by simp) (by simp[PV.upto]) (by simp[PV.upto])
     ·have j:(q.wrong [] i p.ws.length !=0)=true:=bne_iff_ne.2 t
      have k:(q.wrong [] i p.ws.length==0)=false:=beq_eq_false_iff_ne.2 t;rw[k,bL]at e;simp only[e,aq,if_false]at c;simp only[j,H,RN,B,E,F,I,J,N];exact bK 2 ar.length () o (by simp) c (by simp) (by simp) (by simp[PV.upto]) (by simp[PV.upto])
    ·rw[bk (by rw[AQ];omega),cq]at e
     simp only[e,if_true]at c;rw[c]at f;simp only[Z,U,RN,B,E,F,I,J,N];exact hs ⟨x,y⟩ _ _ f
   ·have u:p.Yh aO a b x y=false:=by rw[Piece.Yh,D];rfl
    simp only[u,aq,if_false]at c;simp only[H,RN,B,E,F,I,J,N];exact bK 2 ar.length () o (by simp) c (by simp) (by simp) (by simp[PV.upto]) (by simp[PV.upto])
  ·rw[bk (by rw[AQ];omega),cb]at c
   rw[c]at f;simp only[Z,x6,RN,B,E,F,I,J,N];exact dX () s rfl f (by simp) (by simp) (by simp[PV.upto]) (by simp[PV.upto])
 ·rw[bk (by rw[AQ];omega),cb]at f
  simp only[Z,RN,B,E,F,I,J,N];exact P f
def Piece.oZ (p:Piece)(aO a b:Int):Bool:= !p.ok|| !inR aO 4 50|| !inR a 0 (p.ws.length - 1)||(b != -1&&(!inR b 0 (p.ws.length - 1)||a==b))
def jI (a b:Int):List Int:=if b>=0 then[a,b]else[a]
def Piece.place (p:Piece)(aO a b:Int):Pt×Int:=
 if p.oZ aO a b then(default,2)
 else if p.cs.length==6||p.ws.length==8||decide (p.ms.length+(jI a b).length>10)then(default,3)
 else match p.Sl aO a (jI a b)with|some pt=>(pt,0)|none=>(default,5)
include adq in
def afh (p:Piece)(hc:p.cs.length<=1000)(H:p.ws.length<=1000)(G:p.ms.length<=1000)(aO a b:Int):Pure C 30 [p.dv,dI aO,dI a,dI b] (.d (.tup [(p.place aO a b).1.dv,dI (p.place aO a b).2])) []:=by
 refine ah Ed aep ?_;have A:=KF p hc H G;have v:=zV p a (by omega);have x:=zV p b (by omega);simp only[fD]at A v x;simp only[Ed,aep,fD,U,RN,B,E,F,I,J,N];refine au A ?_;cases g:p.ok
 ·simp only[U,RN,B,E,F,I,J,N]
  rw[Piece.place,if_pos (by rw[Piece.oZ,g];rfl)]
  rfl
 have z:=Piece.Zj g;(try simp only[RN,B,E,F,I,J,N]);refine au (Ns _ _ _) ?_;cases i:inR aO 4 50
 ·simp only[U,RN,B,E,F,I,J,N]
  rw[Piece.place,if_pos (by rw[Piece.oZ,g,i];rfl)]
  rfl
 (try simp only[RN,B,E,F,I,J,N]);refine au v ?_;cases j:inR a 0 (p.ws.length - 1)
 ·simp only[U,RN,B,E,F,I,J,N]
  rw[Piece.place,if_pos (by rw[Piece.oZ,g,i,j];rfl)]
  rfl
 (try simp only[RN,B,E,F,I,J,N]);have akj:0<=aO/\aO<=1000:=by simp only[inR,V,decide_eq_true_eq]at i;omega
 have ajY:p.isW a:=by simp only[inR,V,decide_eq_true_eq]at j;exact⟨by omega,by omega⟩
 have D:=(Piece.IB g).w;have l:cr .i64 (p.w+1)=((p.w.toNat+1:Nat):Int):=by rw[aF (by omega)];omega
 cases m:(b != -1)
 ·have y:b= -1:=by simpa using m
  subst y;have e:p.oZ aO a (-1)=false:=by rw[Piece.oZ,g,i,j];rfl
  have f:jI a (-1)=[a]:=by rw[jI,if_neg (by omega)]
  have q:cr .i64 ((p.ms.length:Int)+((1:Nat):Int))=(p.ms.length:Int)+1:=by rw[aF (by omega)];rfl
  have n:¬((-1:Int)>=0):=by omega
  simp only[n,dV,U,DV.strip,gZ,O,RN,B,E,F,I,J,N];cases s:(((p.cs.length:Nat):Int)==6)
  ·simp only[O,RN,B,E,F,I,J,N]
   cases t:(((p.ws.length:Nat):Int)==8)
   ·simp only[O,q,RN,B,E,F,I,J,N]
    cases k:decide (((p.ms.length:Nat):Int)+1>10)
    ·simp only[O,l,RN,B,E,F,I,J,N]
     simp only[adf];have c:(p.cs.length==6||p.ws.length==8||decide (p.ms.length+(jI a (-1)).length>10))=false:=by
      rw[beq_eq_false_iff_ne]at s t;rw[decide_eq_false_iff_not]at k;simp only[b5,beq_eq_false_iff_ne,decide_eq_false_iff_not,f,ao,aw];omega
     simp only[O,l,U,RN,B,E,F,I,J,N];refine Gj adq p (Piece.IB g) (by omega) (by omega) (by omega) aO a akj ajY [a] (by simp) _ _ _ (fun r=> ?_) (fun pt bs fz r=> ?_)
     ·simp only[U,RN,B,E,F,I,J,N]
      rw[Piece.place,e,c,f,r]
      rfl
     ·simp only[U,RN,B,E,F,I,J,N]
      rw[Piece.place,e,c,f,r,sK]
      rfl
    ·have c:(p.cs.length==6||p.ws.length==8||decide (p.ms.length+(jI a (-1)).length>10))=true:=by
      rw[decide_eq_true_eq]at k;simp only[aD,decide_eq_true_eq,f,ao,aw]
      right;omega
     simp only[U,RN,B,E,F,I,J,N];rw[Piece.place,e,c]
     rfl
   ·have c:(p.cs.length==6||p.ws.length==8||decide (p.ms.length+(jI a (-1)).length>10))=true:=by
     rw[beq_iff_eq]at t;simp only[aD,beq_iff_eq]
     left;right;omega
    simp only[U,RN,B,E,F,I,J,N];rw[Piece.place,e,c]
    rfl
  ·have c:(p.cs.length==6||p.ws.length==8||decide (p.ms.length+(jI a (-1)).length>10))=true:=by
    rw[beq_iff_eq]at s;simp only[aD,beq_iff_eq]
    left;left;omega
   simp only[U,RN,B,E,F,I,J,N];rw[Piece.place,e,c]
   rfl
 ·(try simp only[RN,B,E,F,I,J,N])
  refine au x ?_;cases o:inR b 0 (p.ws.length - 1)
  ·simp only[U,RN,B,E,F,I,J,N]
   rw[Piece.place,if_pos (by rw[Piece.oZ,g,i,j,m,o];rfl)]
   rfl
  (try simp only[RN,B,E,F,I,J,N]);cases u:(a==b)
  ·have e:p.oZ aO a b=false:=by rw[Piece.oZ,g,i,j,m,o,u];rfl
   have n:(b>=0):=by simp only[inR,V,decide_eq_true_eq]at o;omega
   have f:jI a b=[a,b]:=by rw[jI,if_pos n]
   have q:cr .i64 ((p.ms.length:Int)+((2:Nat):Int))=(p.ms.length:Int)+2:=by rw[aF (by omega)];rfl
   simp only[n,dV,U,DV.strip,gZ,O,fits_int,forall_eq,RN,B,E,F,I,J,N];refine⟨(fun h=>by cases h),?_⟩;cases s:(((p.cs.length:Nat):Int)==6)
   ·simp only[O,RN,B,E,F,I,J,N]
    cases t:(((p.ws.length:Nat):Int)==8)
    ·simp only[O,q,RN,B,E,F,I,J,N]
     cases k:decide (((p.ms.length:Nat):Int)+2>10)
     ·simp only[O,l,RN,B,E,F,I,J,N]
      refine adg rfl ?_;have c:(p.cs.length==6||p.ws.length==8||decide (p.ms.length+(jI a b).length>10))=false:=by
       rw[beq_eq_false_iff_ne]at s t;rw[decide_eq_false_iff_not]at k;simp only[b5,beq_eq_false_iff_ne,decide_eq_false_iff_not,f,ao,aw];omega
      simp only[O,l,U,RN,B,E,F,I,J,N];refine Gj adq p (Piece.IB g) (by omega) (by omega) (by omega) aO a akj ajY [a,b] (by simp) _ _ _ (fun r=> ?_) (fun pt bs fz r=> ?_)
      ·simp only[U,RN,B,E,F,I,J,N]
       rw[Piece.place,e,c,f,r]
       rfl
      ·simp only[U,RN,B,E,F,I,J,N]
       rw[Piece.place,e,c,f,r,sK]
       rfl
     ·have c:(p.cs.length==6||p.ws.length==8||decide (p.ms.length+(jI a b).length>10))=true:=by
       rw[decide_eq_true_eq]at k;simp only[aD,decide_eq_true_eq,f,ao,aw]
       right;omega
      simp only[U,RN,B,E,F,I,J,N];rw[Piece.place,e,c]
      rfl
    ·have c:(p.cs.length==6||p.ws.length==8||decide (p.ms.length+(jI a b).length>10))=true:=by
      rw[beq_iff_eq]at t;simp only[aD,beq_iff_eq]
      left;right;omega
     simp only[U,RN,B,E,F,I,J,N];rw[Piece.place,e,c]
     rfl
   ·have c:(p.cs.length==6||p.ws.length==8||decide (p.ms.length+(jI a b).length>10))=true:=by
     rw[beq_iff_eq]at s;simp only[aD,beq_iff_eq]
     left;left;omega
    simp only[U,RN,B,E,F,I,J,N];rw[Piece.place,e,c]
    rfl
  ·simp only[U,RN,B,E,F,I,J,N]
   rw[Piece.place,if_pos (by rw[Piece.oZ,g,i,j,m,o,u];rfl)]
   rfl
end
end Go.Tel
namespace Go.Am
section
variable {C:Ctx}{base nb na:Nat}{K:St->Prop}{KP:DV->Mem->Prop}{L:PV->Mem->Prop}{Q:Ex->St->Prop}{bs:List (Option (List PV))}{fz:List Nat}{ar:List (Option Arr)}
def MV {i:Nat}:ak C base (.mkMap i) [] ⟨bs,fz,ar⟩ L KP=(bs[base+i]?=some none/\L (.mref (base+i)) ⟨bs.set (base+i) (some [.gI []]),fz,ar⟩):=px
variable{b:Nat}
def afM {ks:List Nat}{k:List DV}{v:DV}{l a:List (DV×DV)}(h1:bs[b]?=some (some [.gI l]))(h2:b∉fz)(c:bG ks k k=some true)(e:zX ks l k v=some a)(h:L .dead ⟨bs.set b (some [.gI a]),fz,ar⟩):
  ak C base (.RY ks) [.mref b, .d (.agg k), .d v] ⟨bs,fz,ar⟩ L KP:=by
 simp only[ak,Mem.box,h1,c,e];exact⟨h2,h⟩
def acg {l:List PV}:gU (.mref b::l)=none:=rfl
def ahy:PV.one (.mref b)=true:=rfl
def UQ:PV.mP (.mref b)=false:=rfl
def YV:PV.cells (.mref b)=[.mref b]:=rfl
def Ju {cs:List PV}:PV.cells (.agg cs)=cs:=rfl
def Y0 {cs:List PV}{off:Nat}{ps:List (Nat×Nat)}{vs:List PV}:jm cs ((off,1)::ps) (.mref b::vs)=bif decide (off+1<=cs.length)then jm (splice cs off [.mref b]) ps vs else none:=by
 simp only[jm,PV.mP,PV.cells,a7,true_and]
 by_cases h2:off+1<=cs.length
 ·rw[if_pos h2];simp[h2]
 ·rw[if_neg h2];simp[h2]
end
end Go.Am
namespace Go.Tel
open Go.Am
def abl (l:List Ms):List (DV×DV):=l.map fun m=>(m.dv, .bool true)
def Zf (a b:Int):∀(mm:List Ms),zX [1,1] (abl mm) [dI a,dI b] (.bool true)=some (abl (if mm.contains ⟨a,b⟩then mm else mm++ [⟨a,b⟩]))
 | []=>rfl
 |m::mm=>by
  have g:=Zf a b mm;simp only[abl,aE,Cm]at g⊢;have d:bG [1,1] [dI a,dI b] [dI m.a,dI m.b]=some (decide (a=m.a)&&decide (b=m.b)):=by
   by_cases h1:a=m.a<;>by_cases h2:b=m.b<;>simp[bG,h1,h2]
  by_cases h:a=m.a/\b=m.b
  ·obtain⟨rfl,rfl⟩:=h
   have e:(⟨m.a,m.b⟩:Ms)=m:=by cases m;rfl
   simp only[decide_true,b8]at d;simp only[zX,d,e,aM,BEq.rfl,Bool.true_or,if_true,aE]
  ·have i:(decide (a=m.a)&&decide (b=m.b))=false:=by
    by_cases h1:a=m.a
    ·have h2:¬b=m.b:=fun h2=>h ⟨h1,h2⟩
     simp[h2]
    ·simp[h1]
   have f:((⟨a,b⟩:Ms)==m)=false:=by
    rw[beq_eq_false_iff_ne];rintro rfl;exact h ⟨rfl,rfl⟩
   simp only[zX,d,i,g,bw];rw[aM,f,bS]
   by_cases c:mm.contains ⟨a,b⟩=true
   ·rw[if_pos c,if_pos c];rfl
   ·rw[if_neg c,if_neg c];rfl
def ahv:ajv:=by
 intro p gone e hg;refine Em mixed rfl Sj ?_;simp only[IQ,aer,fD,U,MV,acg,bv,ahy,UQ,YV,dB,Ju,pW,Y0,O,RN,B,E,F,I,J,N];refine aG p.ms.length (fun i (mm:List Ms)=>⟨[(4, .ptr 1 0),(5, .ptr 3 0),(13, .d (sF (p.ms.map Ms.dv))),(14,pI p.ms.length),(15,pI i)],
  ⟨[some [pI p.w,pI p.h,pI p.pl,pI p.ga,pI p.po, .d (sF (p.cs.map Pt.dv)), .d (sF (p.ws.map Wh.dv)), .d (sF (p.ms.map Ms.dv))],
   some [pI 0,pI 0,pI 0,pI 0,pI 0, .d (.slice true []), .d (.slice true []), .d (.slice true []), .d (.map none), .d (.slice true [])],
   some [.gI (abl mm)],
   some [pI p.w,pI p.h,pI p.pl,pI p.ga,pI p.po, .d (sF (p.cs.map Pt.dv)), .d (sF (p.ws.map Wh.dv)), .d (sF (p.ms.map Ms.dv)), .mref 2, .d (sF (gone.map ay))]],[0],[]⟩⟩)
  (fun i mm=>Ip [] p.ms=Ip mm (p.ms.drop i)) 0 [] (Y _) rfl rfl (fun i mm h1 a=> ?_) (fun mm a=> ?_)
 ·obtain⟨h2,b,c⟩:=rng h1 (by omega)
  rw[drop_cons h1,Ip]at a;simp only[h2,b,h1,getD_map,S,O,Cm,U,RN,B,E,F,I,J,N];refine afM (l:=abl mm) rfl (by decide) (by simp[bG]) (Zf _ _ mm) ?_;simp only[c,RN,B,E,F,I,J,N];refine bK 4 0 _ h1 rfl a (by simp) (by simp) rfl ?_;simp[PV.upto]
 ·rw[ai,Ip]at a
  simp only[Z,O,U,MV,acg,bv,ahy,UQ,YV,dB,Ju,pW,Y0,RN,B,E,F,I,J,N];refine⟨_,rfl,?_⟩;rw[iZ];simp only[Piece.laid,a,DV.strip,abl]
  rfl
structure ajy where
 low:Int
 high:Int
 deriving DecidableEq,Inhabited
def ajy.dv (s:ajy):DV:= .agg [dI s.low,dI s.high]
def Piece.nums (p:Piece):List Int:=[p.w,p.h,p.pl,p.ga,p.po]
def Pt.nums (p:Pt):List Int:=[p.x,p.y]
def Wh.nums (p:Wh):List Int:=[p.iY,p.nD,p.layer,p.aO]
def Ms.nums (p:Ms):List Int:=[p.a,p.b]
structure Piece.small (p:Piece):Prop where
 w: -1000000<=p.w/\p.w<=1000000
 h: -1000000<=p.h/\p.h<=1000000
 pl: -1000000<=p.pl/\p.pl<=1000000
 ga: -1000000<=p.ga/\p.ga<=1000000
 po: -1000000<=p.po/\p.po<=1000000
 cs:∀c∈p.cs,∀n∈c.nums, -1000000<=n/\n<=1000000
 ws:∀c∈p.ws,∀n∈c.nums, -1000000<=n/\n<=1000000
 ms:∀c∈p.ms,∀n∈c.nums, -1000000<=n/\n<=1000000
 lc:p.cs.length<=1000
 lw:p.ws.length<=1000
 lm:p.ms.length<=1000
def Piece.cells (p:Piece):List DV:=[dI p.w,dI p.h,dI p.pl,dI p.ga,dI p.po,sF (p.cs.map Pt.dv),sF (p.ws.map Wh.dv),sF (p.ms.map Ms.dv)]
end Go.Tel
namespace Go.Am
variable{base sz:Nat}{K:PV->Mem->Prop}{KP:DV->Mem->Prop}{is:List Nat}
def adQ {C:Ctx}{M:Mem}{zs ds xs:List DV}(h:qy sz zs is (ds.map DV.strip)=some xs)(a:K (.d (.slice true xs)) M):ak C base (.dA sz zs is) (ds.map .d) M K KP:=by
 have h1:cZ M (ds.map .d)=some ds:=by
  clear h a
  induction ds with
  |nil=>rfl
  |cons d ds b=>simp only[aE,cZ,datum,b]
 rw[afL h1 h,zT];exact a
def afP {cs:List PV}{off n k ver s:Nat}{ps:List (Nat×Nat)}{vs:List PV}:jm cs ((off,n)::ps) (.tsl k ver s::vs)=bif (1==n)&&decide (off+n<=cs.length)then jm (splice cs off [.tsl k ver s]) ps vs else none:=by
 have a:PV.cells (.tsl k ver s)=[.tsl k ver s]:=rfl;simp only[jm,PV.mP,true_and,a,ao,aw,bd]
 by_cases h1:1=n
 ·by_cases h2:off+n<=cs.length
  ·rw[if_pos ⟨h1,h2⟩];simp[h1,h2]
  ·rw[if_neg (fun h=>h2 h.2)];simp[h2]
 ·rw[if_neg (fun h=>h1 h.1)]
  have:((1:Nat)==n)=false:=by simpa using h1
  rw[this];rfl
def agw {C:Ctx}{bs:List (Option (List PV))}{fz:List Nat}{ar:List (Option Arr)}{zs ds xs:List DV}(h:qy sz zs is (ds.map DV.strip)=some xs)(h1:0<sz)(h2:∀x∈xs,x.fits sz=true)
  (a:K (.tsl ar.length 0 0) ⟨bs,fz,ar++ [some ⟨sz,xs,0,1⟩]⟩):ak C base (.lG sz zs is) (ds.map .d) ⟨bs,fz,ar⟩ K KP:=by
 have ha:gU (ds.map PV.d)=some ds:=by
  clear h a
  induction ds with
  |nil=>rfl
  |cons d ds b=>simp only[aE,gU,b,bw]
 simp only[ak,ha,h];exact⟨h1,h2,a⟩
end Go.Am
namespace Go.Tel
open Go.Am
def ai1:Piece:=⟨60,50,1,1,2,[⟨15,20⟩,⟨35,20⟩,⟨35,36⟩],[⟨0,0,0,12⟩,⟨1,0,0,8⟩,⟨1,0,1,10⟩,⟨2,0,1,6⟩],[⟨0,1⟩,⟨2,3⟩]⟩
def P_c:Pure C 31 [] (.d ai1.dv) []:=by
 refine Em mixed rfl adZ ?_;simp only[VB,aeA,RN,B,E,F,I,J,N];refine adQ (ds:=[_,_,_]) rfl ?_;(try simp only[RN,B,E,F,I,J,N]);refine agw (ds:=[_,_,_,_]) rfl (by decide) (by decide) ?_;(try simp only[RN,B,E,F,I,J,N]);refine adQ (ds:=[_,_]) rfl ?_;simp only[afP,aci,bv,dB,Ju,pW,Zk,DV.strip,RN,B,E,F,I,J,N];exact⟨_,rfl,by rw[fD];rfl⟩
def aef (p:Piece)(n:Int)(hl:p.ws.length<=1000000):Pure C 13 [p.dv,dI n] (.d (.bool (inR n 0 (p.ws.length - 1)))) []:=by
 have a:cr .i64 ((p.ws.length:Int) - 1)=(p.ws.length:Int) - 1:=aF (by omega);refine ah IV aQ ?_;simp only[IV,aQ,fD,O,a,RN,B,E,F,I,J,N];refine au (zn _ _ _) ?_;(try simp only[RN,B,E,F,I,J,N])
def Xb (x y:Pt):bG [1,1] [dI x.x,dI x.y] [dI y.x,dI y.y]=some (decide (x=y)):=by
 obtain⟨a,b⟩:=x;obtain⟨c,d⟩:=y
 by_cases h1:a=c<;>by_cases h2:b=d<;>simp[bG,h1,h2]
def Xa (x y:Ms):bG [1,1] [dI x.a,dI x.b] [dI y.a,dI y.b]=some (decide (x=y)):=by
 obtain⟨a,b⟩:=x;obtain⟨c,d⟩:=y
 by_cases h1:a=c<;>by_cases h2:b=d<;>simp[bG,h1,h2]
def aee (p:Piece)(hc:p.cs.length<=1000)(hw:p.ws.length<=1000)(hm:p.ms.length<=1000):Pure C 7 [p.dv] (.d (.bool p.ok)) []:=by
 refine ah IU aS ?_;simp only[IU,aS,fD,RN,B,E,F,I,J,N]
 by_cases hh:p.DL=true
 case neg=>
  have D:p.ok=false:=by simp[Piece.ok,hh]
  rw[D]
  repeat' first
   |(refine au (zn _ _ _) ?_;try simp only[RN,B,E,F,I,J,N])
   |(refine aH (by rfl) (fun Q=> ?_) (fun Q=> ?_)<;>simp only[Q,RN,B,E,F,I,J,N])
   |(refine aP (by rfl) (fun Q=> ?_) (fun Q=> ?_)<;>simp only[Q,RN,B,E,F,I,J,N])
  all_goals(first|rfl|(exfalso;simp_all[Piece.DL];done))
 have R:=hh;simp only[Piece.DL,V]at R;obtain⟨⟨⟨⟨a1,a2⟩,a3⟩,a4⟩,a5⟩:=R;refine au (zn _ _ _) ?_;simp only[a1,RN,B,E,F,I,J,N];refine au (zn _ _ _) ?_;simp only[a2,RN,B,E,F,I,J,N];refine au (zn _ _ _) ?_;simp only[a3,RN,B,E,F,I,J,N];refine au (zn _ _ _) ?_;simp only[a4,RN,B,E,F,I,J,N];refine au (zn _ _ _) ?_;simp only[a5,O,RN,B,E,F,I,J,N];refine au (zn _ _ _) ?_
 by_cases l1:inR p.cs.length 1 6=true
 case neg=>
  have W:inR p.cs.length 1 6=false:=by simpa using l1
  simp only[W,RN,B,E,F,I,J,N];simp[Piece.ok,Piece.Bq,W]
 by_cases l2:p.ws.length<=8
 case neg=>
  have v:(p.ws.length:Int)>8:=by omega
  simp only[l1,v,O,RN,B,E,F,I,J,N];simp[Piece.ok,Piece.Bq,l1,v]
 have v:¬(p.ws.length:Int)>8:=by omega
 by_cases l3:p.ms.length<=10
 case neg=>
  have H:(p.ms.length:Int)>10:=by omega
  simp only[l1,v,H,O,RN,B,E,F,I,J,N];simp[Piece.ok,Piece.Bq,l1,v,H]
 have H:¬(p.ms.length:Int)>10:=by omega
 simp only[l1,v,H,O,RN,B,E,F,I,J,N];have ajZ:p.Bq=true:=by simp[Piece.Bq,l1,v,H]
 have D:p.ok=(AA p.w p.h [] p.cs&&zY p.ws.length [] p.ms&&p.ws.all (FH p.cs.length)):=by simp[Piece.ok,hh,ajZ]
 rw[D];refine aG p.cs.length (fun i (_:Unit)=>⟨[(1, .d (.aV p.cells)),(3,pI i)],⟨[some (p.cells.map .d)],[0],[]⟩⟩)
  (fun i _=>AA p.w p.h [] p.cs=AA p.w p.h (p.cs.take i) (p.cs.drop i)) 0 () (Y _) rfl (by simp) (fun i _ m f=> ?_) (fun _ f=> ?_)
 ·obtain⟨L,M,P⟩:=rng m (by omega)
  rw[drop_cons m,AA,<-take_snoc m]at f;simp only[Piece.cells,L,M,m,getD_map,S,O,sK,U,RN,B,E,F,I,J,N];have an:p.cs.getD i default=p.cs.getD i default:=rfl;generalize am:p.cs.getD i default=c at*;refine au (zn _ _ _) ?_
  by_cases s:inR c.x 0 p.w=true
  case neg=>
   have j:inR c.x 0 p.w=false:=by simpa using s
   simp only[j,RN,B,E,F,I,J,N];simp[f,j]
  simp only[s,RN,B,E,F,I,J,N];refine au (zn _ _ _) ?_
  by_cases q:inR c.y 0 p.h=true
  case neg=>
   have l:inR c.y 0 p.h=false:=by simpa using q
   simp only[l,RN,B,E,F,I,J,N];simp[f,l]
  simp only[q,RN,B,E,F,I,J,N];rw[s,q,av,av]at f;refine aG i (fun k (_:Unit)=>⟨[(1, .d (.aV p.cells)),(3,pI i),(4, .d (.aV [dI c.x,dI c.y])),(5,pI k)],⟨[some (p.cells.map .d),some [pI c.x,pI c.y]],[1,0],[]⟩⟩)
   (fun k _=>c∉p.cs.take k) 0 () (Y _) rfl (by simp) (fun k _ K A=> ?_) (fun _ A=> ?_)
  ·obtain⟨e2,e3,e6⟩:=rng K (by omega)
   have o:k<p.cs.length:=by omega
   simp only[Piece.cells,e2,e3,o,getD_map,S,O,sK,RN,B,E,F,I,J,N];rw[Ib (Xb _ _)]
   by_cases t:p.cs.getD k default=c
   ·rw[decide_eq_true t]
    have G:(true !=false)=true:=rfl;have r:c∈p.cs.take i:=by
     rw[<-t,ab,ae o];exact aR.2 ⟨k,by omega,rfl⟩
    simp only[G,RN,B,E,F,I,J,N];simp[f,r]
   ·rw[decide_eq_false t]
    have G:(false !=false)=false:=rfl;simp only[G,e6,RN,B,E,F,I,J,N];exact dX () K rfl (by rw[take_snoc o];simp only[a6,az,not_or];exact⟨A,fun h=>t h.symm⟩) (by simp) (by simp) rfl rfl
  ·have z:(p.cs.take i).contains c=false:=by simpa using A
   rw[z,bN,av]at f;simp only[Z,P,RN,B,E,F,I,J,N];exact bK 1 0 () m rfl f (by simp) (by simp) rfl rfl
 ·rw[ai,AA]at f
  simp only[Piece.cells,Z,O,RN,B,E,F,I,J,N];rw[f,av];refine aG p.ws.length (fun i (_:Unit)=>⟨[(1, .d (.aV p.cells)),(6,pI i)],⟨[some (p.cells.map .d)],[0],[]⟩⟩)
   (fun i _=>p.ws.all (FH p.cs.length)=(p.ws.drop i).all (FH p.cs.length)) 0 () (Y _) rfl (by simp) (fun i _ m g=> ?_) (fun _ g=> ?_)
  ·obtain⟨L,M,P⟩:=rng m (by omega)
   have wl:cr .i64 ((p.cs.length:Int) - 1)=(p.cs.length:Int) - 1:=aF (by omega);rw[drop_cons m,ca]at g;simp only[Piece.cells,L,M,m,getD_map,S,O,jX,U,wl,RN,B,E,F,I,J,N];generalize p.ws.getD i default=w at*;refine au (zn _ _ _) ?_
   by_cases s:inR w.iY 0 ((p.cs.length:Int) - 1)=true
   case neg=>
    have j:=eq_false_of_ne_true s;simp only[j,RN,B,E,F,I,J,N];simp[g,FH,j]
   simp only[s,RN,B,E,F,I,J,N];refine au (zn _ _ _) ?_
   by_cases q:inR w.nD 0 2=true
   case neg=>
    have l:=eq_false_of_ne_true q;simp only[l,RN,B,E,F,I,J,N];simp[g,FH,l]
   simp only[q,RN,B,E,F,I,J,N];refine au (zn _ _ _) ?_
   by_cases u:inR w.layer 0 5=true
   case neg=>
    have X:=eq_false_of_ne_true u;simp only[X,RN,B,E,F,I,J,N];simp[g,FH,X]
   simp only[u,RN,B,E,F,I,J,N];refine au (zn _ _ _) ?_
   by_cases x4:inR w.aO 4 50=true
   case neg=>
    have ac:=eq_false_of_ne_true x4;simp only[ac,RN,B,E,F,I,J,N];simp[g,FH,ac]
   simp only[x4,P,RN,B,E,F,I,J,N];exact bK 1 0 () m rfl (by rw[g];simp[FH,s,q,u,x4]) (by simp) (by simp) rfl rfl
  rw[ai,cq]at g;rw[g,b9];simp only[Piece.cells,Z,O,RN,B,E,F,I,J,N];refine aG p.ms.length (fun i (_:Unit)=>⟨[(1, .d (.aV p.cells)),(8,pI i)],⟨[some (p.cells.map .d)],[0],[]⟩⟩)
   (fun i _=>zY p.ws.length [] p.ms=zY p.ws.length (p.ms.take i) (p.ms.drop i)) 0 () (Y _) rfl (by simp) (fun i _ m e=> ?_) (fun _ e=> ?_)
  ·obtain⟨L,M,P⟩:=rng m (by omega)
   have T:∀n,Pure C 13 [.agg p.cells,dI n] (.d (.bool (inR n 0 (p.ws.length - 1)))) []:=fun n=>by
    have:=aef p n (by omega);rw[fD]at this;exact this
   rw[drop_cons m,zY,<-take_snoc m]at e;simp only[Piece.cells,L,M,m,getD_map,S,O,Cm,U,RN,B,E,F,I,J,N];generalize p.ms.getD i default=c at*;refine au (T _) ?_
   by_cases s:inR c.a 0 ((p.ws.length:Int) - 1)=true
   case neg=>
    have j:=eq_false_of_ne_true s;simp only[j,RN,B,E,F,I,J,N];simp[e,j]
   simp only[s,RN,B,E,F,I,J,N];refine au (T _) ?_
   by_cases q:inR c.b 0 ((p.ws.length:Int) - 1)=true
   case neg=>
    have l:=eq_false_of_ne_true q;simp only[l,RN,B,E,F,I,J,N];simp[e,l]
   by_cases u:c.a>=c.b
   case pos=>
    simp only[q,u,RN,B,E,F,I,J,N];rw[e,decide_eq_true u];simp
   simp only[q,u,RN,B,E,F,I,J,N];rw[s,q,decide_eq_false u,bN,av,av,av]at e;refine aG i (fun k (_:Unit)=>⟨[(1, .d (.aV p.cells)),(8,pI i),(9, .d (.aV [dI c.a,dI c.b])),(10,pI k)],⟨[some (p.cells.map .d),some [pI c.a,pI c.b]],[1,0],[]⟩⟩)
    (fun k _=>c∉p.ms.take k) 0 () (Y _) rfl (by simp) (fun k _ K A=> ?_) (fun _ A=> ?_)
   ·obtain⟨e2,e3,e6⟩:=rng K (by omega)
    have o:k<p.ms.length:=by omega
    simp only[Piece.cells,e2,e3,o,getD_map,S,O,Cm,RN,B,E,F,I,J,N];rw[Ib (Xa _ _)]
    by_cases t:p.ms.getD k default=c
    ·rw[decide_eq_true t]
     have G:(true !=false)=true:=rfl;have r:c∈p.ms.take i:=by
      rw[<-t,ab,ae o];exact aR.2 ⟨k,by omega,rfl⟩
     simp only[G,RN,B,E,F,I,J,N];simp[e,r]
    ·rw[decide_eq_false t]
     have G:(false !=false)=false:=rfl;simp only[G,e6,RN,B,E,F,I,J,N];exact dX () K rfl (by rw[take_snoc o];simp only[a6,az,not_or];exact⟨A,fun h=>t h.symm⟩) (by simp) (by simp) rfl rfl
   ·have z:(p.ms.take i).contains c=false:=by simpa using A
    rw[z,bN,av]at e;simp only[Z,P,RN,B,E,F,I,J,N];exact bK 1 0 () m rfl e (by simp) (by simp) rfl rfl
  ·rw[ai,zY]at e
   simp only[Piece.cells,Z,O,RN,B,E,F,I,J,N];rw[e]
def Piece.wY (p:Piece)(a b:Int):Bool:=p.ms.any fun m=>(m.a==a&&m.b==b)||(m.a==b&&m.b==a)
def abz (p:Piece)(a b:Int)(hl:p.ms.length<=1000):Pure C 9 [p.dv,dI a,dI b] (.d (.bool (p.wY a b))) []:=by
 refine ah F9 iH ?_;simp only[F9,iH,fD,RN,B,E,F,I,J,N];refine aG p.ms.length (fun i (_:Unit)=>⟨[(1,pI a),(2,pI b),(3, .d (.aV p.cells)),(7,pI i)],⟨[some (p.cells.map .d)],[0],[]⟩⟩)
  (fun i _=>p.wY a b=((p.ms.drop i).any fun m=>(m.a==a&&m.b==b)||(m.a==b&&m.b==a))) 0 () (Y _) rfl rfl (fun i _ g c=> ?_) (fun _ c=> ?_)
 ·obtain⟨j,k,h⟩:=rng g (by omega)
  rw[drop_cons g,cn]at c;simp only[Piece.cells,j,k,g,getD_map,S,O,Cm,U,RN,B,E,F,I,J,N];generalize p.ms.getD i default=m at*;have f:∀t:Bool,t=((m.a==a&&m.b==b)||(m.a==b&&m.b==a))->p.wY a b=(t||((p.ms.drop (i+1)).any fun m=>(m.a==a&&m.b==b)||(m.a==b&&m.b==a))):=fun t l=>by rw[c,l]
  clear c
  repeat' first
   |(refine aH (by rfl) (fun e=> ?_) (fun e=> ?_)<;>simp only[e,U,h,RN,B,E,F,I,J,N])
   |(refine aP (by rfl) (fun e=> ?_) (fun e=> ?_)<;>simp only[e,U,h,RN,B,E,F,I,J,N])
  all_goals first
   |(rw[f true (by simp_all)];rfl)
   |(exact bK 1 0 () g rfl (by rw[f false (by simp_all),bS]) (by simp) (by simp) rfl rfl)
 ·rw[ai,List.any_nil]at c
  simp only[Piece.cells,Z,O,RN,B,E,F,I,J,N];rw[c]
def Vd {n:Int}:∀{pre ms:List Ms},zY n pre ms=true->∀m∈ms,0<=m.a/\m.a<m.b/\m.b<=n - 1
 | _,[],_,m,h=>by cases h
 |pre,x::ms,h,m,c=>by
  simp only[zY,inR,V,decide_eq_true_eq,bi,decide_eq_false_iff_not,ge_iff_le]at h
  rcases bX.1 c with rfl|c
  ·omega
  ·exact Vd h.2 m c
variable{p:Piece}
def ajb (h:p.ok=true):∀m∈p.ms,0<=m.a/\m.a<m.b/\m.b<=p.ws.length - 1:=by
 simp only[Piece.ok,V]at h;exact Vd h.1.2
def abk (h:∀m∈p.ms,m.a<m.b)(a b:Int):p.mesh a b=p.wY a b:=by
 rw[Bool.eq_iff_iff,Piece.mesh,List.contains_iff_mem,Piece.wY,List.any_eq_true];constructor
 ·intro c
  refine⟨_,c,?_⟩;simp only[aD,V,beq_iff_eq];omega
 ·rintro⟨⟨x,y⟩,c,d⟩
  have:=h _ c;simp only[aD,V,beq_iff_eq]at d this;have e:(⟨min a b,max a b⟩:Ms)=⟨x,y⟩:=by
   rw[Ms.mk.injEq];omega
  rw[e];exact c
def Piece.meets (p:Piece)(a b:Int):Int×Int:=if p.ok&&inR a 0 (p.ws.length - 1)&&inR b 0 (p.ws.length - 1)then(p.wrong [] a b,0)else(0,2)
def YN (p:Piece)(hc:p.cs.length<=1000)(i:p.ws.length<=1000)(h:p.ms.length<=1000)(a b:Int):Pure C 10 [p.dv,dI a,dI b] (.d (.tup [dI (p.meets a b).1,dI (p.meets a b).2])) []:=by
 have h1:=KF p hc i h;have h2:=zV p a (by omega);have f:=zV p b (by omega);have g:=ahv p [] h (by simp);rw[fD]at h1 h2 f g;refine ah Ec QA ?_;simp only[Ec,QA,fD,U,RN,B,E,F,I,J,N];refine au h1 ?_;cases c:p.ok
 ·(try simp only[RN,B,E,F,I,J,N])
  rw[Piece.meets,c];rfl
 (try simp only[RN,B,E,F,I,J,N]);refine au h2 ?_;cases ha:inR a 0 (p.ws.length - 1)
 ·(try simp only[RN,B,E,F,I,J,N])
  rw[Piece.meets,c,ha];rfl
 (try simp only[RN,B,E,F,I,J,N]);refine au f ?_;cases hb:inR b 0 (p.ws.length - 1)
 ·(try simp only[RN,B,E,F,I,J,N])
  rw[Piece.meets,c,ha,hb];rfl
 have j:p.isW a:=by simp only[inR,V,decide_eq_true_eq]at ha;exact⟨by omega,by omega⟩
 have wb:p.isW b:=by simp only[inR,V,decide_eq_true_eq]at hb;exact⟨by omega,by omega⟩
 have e:Pure C 38 [(p.laid []).dv,dI a,dI b] (pI (p.wrong [] a b)) []:=Io (p.laid []) (Piece.IB c) (Piece.PY p []) (by simp[Piece.laid]) a b j wb;(try simp only[RN,B,E,F,I,J,N]);refine au g ?_;rw[iZ]at e;simp only[iZ,RN,B,E,F,I,J,N];refine au e ?_;(try simp only[RN,B,E,F,I,J,N]);rw[Piece.meets,c,ha,hb];rfl
def TB (c:p.ok=true){a b:Nat}(ha:a<p.ws.length)(hb:b<p.ws.length):p.meets a b=(p.wrong [] a b,0):=by
 have h1:inR (a:Int) 0 (p.ws.length - 1)=true:=by simp only[inR,V,decide_eq_true_eq];omega
 have h2:inR (b:Int) 0 (p.ws.length - 1)=true:=by simp only[inR,V,decide_eq_true_eq];omega
 rw[Piece.meets,c,h1,h2];rfl
def oW:aA:=(sw (r0 [ba 3 0 0,ba 5 1 2,mf 6 false] 2 [1,3,5] [3,5]) (sw (sr [lw 26 8 3,oa 27 (.aj 6) 26,oa 28 pN 27,mv 29 28,ow 30 (.load true 8) 3 29 0,ow 31 (.aj 7) 30 29 0,ow 32 pN 31 29 0,pt 33 29 32,mv 34 33,ow 35 (.fld 0) 5 34 0,lq 36 35 34,oF 37 pL [.t 36,kI 0] 34 0,pt 38 34 37,mv 39 38,ow 40 (.fld 0) 5 39 0,lq 41 40 39,oF 42 pG [.t 41,kI 120] 39 0,pt 43 39 42,mv 44 43,ow 45 (.fld 1) 5 44 0,lq 46 45 44,oF 47 pL [.t 46,kI 0] 44 0,pt 48 44 47,mv 49 48,ow 50 (.fld 1) 5 49 0,lq 51 50 49,oF 52 pG [.t 51,kI 120] 49 0,pt 53 49 52] 0 [1,3,5,53] (cd 53 (sr [on 54 (.aj 8) [],mv 6 54] 0 [6] .ret) .skip)) (sr [ag 7 3] 0 [1,3,5,7] (sr [ag 8 1] 0 [1,3,5,7,8] (sw (sr [mi 9 0] 0 [1,3,5,7,8,9] (.block 0 (.loop (sw (sr [mv 55 9,fa 56 6 3,lo 57 56,oa 58 .len 57,ob 59 pL 55 58] 0 [1,3,5,7,8,9,59] (cx 59 0)) (sw (.block 1 (sw (r0 [fa 62 6 3,lo 63 62,mv 64 9,ix 65 4 63 64,lw 66 4 65,al 10 0 [z0,z0,z0,z0],sk 4 10 66 0] 1 [1,3,5,7,8,9,10] [10]) (sw (sr [fa 67 2 10,lo 68 67,mv 69 1,ob 70 pQ 68 69] 0 [1,3,5,7,8,9,10,70] (cd 70 (.exit 1) .skip)) (sw (r0 [fa 71 5 3,lo 72 71,fa 73 0 10,lo 74 73,ix 75 2 72 74,lw 76 2 75,al 11 0 [z0,z0],sk 2 11 76 0] 1 [1,3,5,7,8,9,10,11] [11]) (sw (r1 [fu 77 0 11 1,lv 78 77,fu 79 0 5 1,lv 80 79,ob 81 pU 78 80,fu 82 1 11 1,lv 83 82,fu 84 1 5 1,lv 85 84,ob 86 pU 83 85,mv 12 81,mv 13 86] 0 [1,3,5,7,8,9,10,12,13] []) (sw (sr [fa 87 3 10,lo 88 87,oi 89 pG 88 20,mv 90 89,ow 91 .mov 12 90 0,oF 92 pL [.t 91,kI (-100)] 90 0,pt 93 90 92,mv 94 93,ow 95 .mov 12 94 0,oF 96 pG [.t 95,kI 100] 94 0,pt 97 94 96,mv 98 97,ow 99 .mov 13 98 0,oF 100 pL [.t 99,kI (-100)] 98 0,pt 101 98 100,mv 102 101,ow 103 .mov 13 102 0,oF 104 pG [.t 103,kI 100] 102 0,pt 105 102 104,mv 106 105,ow 107 .mov 12 106 0,ow 108 .mov 12 106 0,obF 109 pM 107 108 106 0,ow 110 .mov 13 106 0,ow 111 .mov 13 106 0,obF 112 pM 110 111 106 0,obF 113 pA 109 112 106 0,ow 114 (.fld 3) 10 106 0,lq 115 114 106,ow 116 (.fld 3) 10 106 0,lq 117 116 106,obF 118 pM 115 117 106 0,obF 119 (.bin .leq) 113 118 106 0,pt 120 106 119] 0 [1,3,5,7,8,9,10,12,13,120] (cd 120 (sr [on 121 (.aj 8) [],mv 6 121] 0 [6] .ret) .skip)) (rg [mv 122 7,mv 123 12,mv 124 13,fa 125 3 10,lo 126 125,on 127 (.build [z0,z0,z0] [(0,1),(1,1),(2,1)]) [.t 123,.t 124,.t 126],oa 128 (.dA 3 [.agg [z0,z0,z0]] [0]) 127,ob 129 (.app 3 false) 122 128,mv 130 8,mv 131 9,oa 132 (.dA 1 [z0] [0]) 131,ob 133 (.app 1 false) 130 132,mv 7 129,mv 8 133] 0 [1,3,5,7,8,9]))))))) (rg [mv 60 9,oi 61 pA 60 1,mv 9 61] 0 [1,3,5,7,8,9])))))) (sw (sw (r0 [mv 134 7,oa 135 .len 134,oi 136 pL 135 1,mv 137 136,ow 138 .mov 7 137 0,ow 139 .len 138 137 0,oF 140 pG [.t 139,kI 5] 137 0,pt 141 137 140] 0 [3,7,8,141] [7,8]) (cd 141 (sr [on 142 (.aj 8) [],mv 6 142] 0 [6] .ret) .skip)) (sr [lw 143 8 3,al 14 0 [z0,z0,z0,z0,z0,zs,zs,zs],sk 8 14 143 0] 1 [3,7,8,14] (sr [fa 144 3 14,os (.store 1) [.t 144,kI 0] 0] 0 [3,7,8,14] (sr [fa 145 3 3,lo 146 145,oi 147 pG 146 0,mv 15 147,mf 16 true] 0 [3,7,8,14,15,16] (sw (sr [mi 17 0] 0 [3,7,8,14,15,16,17] (.block 2 (.loop (sw (sr [mv 148 17,mv 149 8,oa 150 .len 149,ob 151 pL 148 150] 0 [3,7,8,14,15,16,17,151] (cx 151 2)) (sw (.block 3 (sr [mi 18 0] 0 [3,7,8,14,15,16,17,18] (.block 4 (.loop (sw (sr [mv 154 18,mv 155 17,ob 156 pL 154 155] 0 [3,7,8,14,15,16,17,18,156] (cx 156 4)) (sw (.block 5 (sw (sw (r1 [ou 159 (.load true 8) 3 1,mv 160 8,mv 161 17,ob1 162 (.bU 1) 160 161 1,lv 163 162,mv 164 8,mv 165 18,ob1 166 (.bU 1) 164 165 1,lv 167 166,on 168 (.aj 9) [.t 159,.t 163,.t 167]] 0 [3,7,8,14,15,16,17,18,168] []) (cd 168 (sr [on 169 (.aj 8) [],mv 6 169] 0 [6] .ret) .skip)) (sw (r1 [ou 171 (.load true 8) 3 1,mv 172 8,mv 173 17,ob1 174 (.bU 1) 172 173 1,lv 175 174,mv 176 8,mv 177 18,ob1 178 (.bU 1) 176 177 1,lv 179 178,on 180 (.aj 10) [.t 171,.t 175,.t 179],mv 170 180,xa 181 0 170,xa 182 1 170,mv 19 181,mv 20 182] 0 [3,7,8,14,15,16,17,18,19,20] []) (sw (r1 [ou 184 (.load true 8) 14 2,mv 185 8,mv 186 17,ob1 187 (.bU 1) 185 186 1,lv 188 187,mv 189 8,mv 190 18,ob1 191 (.bU 1) 189 190 1,lv 192 191,on 193 (.aj 10) [.t 184,.t 188,.t 192],mv 183 193,xa 194 0 183,xa 195 1 183,mv 21 194,mv 22 195] 0 [3,7,8,14,15,16,17,18,19,20,21,22] []) (sw (sr [mv 196 20,oi 197 pQ 196 0,mv 198 197,ow 199 .mov 22 198 0,oF 200 pQ [.t 199,kI 0] 198 0,pt 201 198 200] 0 [3,7,8,14,15,16,17,18,19,21,201] (cd 201 (sr [mf 6 false] 0 [6] .ret) .skip)) (sr [mv 202 15,mv 203 202,ov 204 .mov 19 203 0,ot 205 pE [.t 204,kI 0] 203 0,pf 206 203 205,mv 15 206] 0 [3,7,8,14,15,16,17,18,21] (rg [mv 207 16,mv 208 207,ov 209 .mov 21 208 0,ot 210 pQ [.t 209,kI 3] 208 0,pf 211 208 210,mv 212 211,ov 213 .mov 21 212 0,ot 214 pQ [.t 213,kI 4] 212 0,pf 215 212 214,mv 16 215] 0 [3,7,8,14,15,16,17,18]))))))) (rg [mv 157 18,oi 158 pA 157 1,mv 18 158] 0 [3,7,8,14,15,16,17,18]))))))) (rg [mv 152 17,oi 153 pA 152 1,mv 17 153] 0 [3,7,8,14,15,16,17])))))) (sr [mv 216 7,oa 217 (.aj 11) 216,mv 23 217] 0 [7,15,16,23] (sr [mv 219 7,oa 220 (.aj 12) 219,mv 218 220,xa 221 0 218,xa 222 1 218,mv 24 221,mv 25 222] 0 [7,15,16,23,24,25] (sw (sr [mv 223 23,mv 224 25,ob 225 pQ 223 224,mv 226 225,ow 227 .mov 23 226 0,oF 228 pQ [.t 227,kI 0] 226 0,ow 229 .mov 228 226 0,ov 230 .mov 23 229 0,ot 231 pQ [.t 230,kI 2] 229 0,oF 232 .pick [.t 229,.t 231,.c (.bool false)] 226 0,pt 233 226 232,mv 234 233,ow 235 .mov 15 234 0,ow 236 .mov 235 234 0,ov 237 .mov 23 236 0,ot 238 pQ [.t 237,kI 0] 236 0,oF 239 .pick [.t 236,.t 238,.c (.bool false)] 234 0,pt 240 234 239,mv 241 240,ow 242 .mov 23 241 0,oF 243 pE [.t 242,kI 0] 241 0,ow 244 .mov 243 241 0,ov 245 .mov 16 244 0,ov 246 pN 245 244 0,ov 247 .mov 246 244 0,ow 248 .mov 24 247 0,ow 249 .len 248 247 0,ow 250 .mov 7 247 0,ow 251 .len 250 247 0,obF 252 pQ 249 251 247 0,ot 253 .pick [.t 247,.c (.bool true),.t 252] 244 0,oF 254 .pick [.t 244,.t 253,.c (.bool false)] 241 0,pt 255 241 254] 0 [255] (cd 255 (sr [mf 6 false] 0 [6] .ret) .skip)) (sr [on 256 (.aj 8) [],mv 6 256] 0 [6] .ret))))))))))))))
def rH:aA:=(sw (r0 [ba 1 0 0,mf 2 false] 1 [1] [1]) (sr [fa 3 5 1,lo 4 3,oa 5 .len 4,oi 6 (.bin .leq) 5 8,mv 7 6,ov 8 (.fld 6) 1 7 0,ov 9 (.load false 1) 8 7 0,ov 10 .len 9 7 0,ot 11 (.bin .leq) [.t 10,kI 10] 7 0,pf 12 7 11,mv 13 12,ov 14 (.fld 7) 1 13 0,ov 15 (.load false 1) 14 13 0,ov 16 .len 15 13 0,ot 17 (.bin .leq) [.t 16,kI 13] 13 0,pf 18 13 17,mv 2 18] 0 [2] .ret))
def qL:aA:=(sr [mf 0 false] 0 [] (sw (r0 [on 8 (.aj 31) [],on 9 (.aj 30) [.t 8,kI 5,kI 0,kI 1],mv 7 9,xa 10 0 7,xa 11 1 7,al 1 0 [z0,z0],sk 2 1 10 0,mv 2 11] 1 [1,2] [1]) (sr [on 13 (.dA 1 [z0,z0,z0,z0] [0,1,2,3]) [kI 1,kI 2,kI 8,kI 9],on 14 (.dA 1 [z0,z0,z0,z0] [0,1,2,3]) [kI 8,kI 9,kI 1,kI 2],ob 15 (.aj 32) 13 14,mv 12 15,xa 16 0 12,xa 17 1 12,mv 3 16,mv 4 17] 0 [1,2,3,4] (sr [on 19 (.aj 34) [],oc 20 (.aj 33) 19 (.c (.str ⟨#[104,97,110,100,115,10,99,117,116,115,32,51,54,10,119,111,114,107,115,32,57,10]⟩)),mv 18 20,xa 21 0 18,xa 22 1 18,mv 5 21,mv 6 22] 0 [1,2,3,4,5,6] (sr [mv 23 2,oi 24 pE 23 0,mv 25 24,ov 26 (.load true 2) 1 25 0,ot 27 (.build [z0,z0] [(0,1),(1,1)]) [kI 28,kI 8] 25 0,obT 28 (.A8 false [1,1]) 26 27 25 0,pf 29 25 28,mv 30 29,ov 31 .mov 4 30 0,ot 32 pE [.t 31,kI 0] 30 0,pf 33 30 32,mv 34 33,ov 35 .mov 3 34 0,ot 36 pE [.t 35,kI 2] 34 0,pf 37 34 36,mv 38 37,ov 39 .mov 6 38 0,ot 40 pE [.t 39,kI 0] 38 0,pf 41 38 40,mv 42 41,ov 43 .mov 5 42 0,ot 44 pE [.t 43,.c (.str ⟨#[49,32,51,32,51,32,52,10,50,32,49,32,51,10,49,48,10]⟩)] 42 0,pf 45 42 44,mv 0 45] 0 [0] .ret)))))
def Piece.short (p:Piece):Bool:=decide (p.cs.length<=8)&&decide (p.ws.length<=10)&&decide (p.ms.length<=13)
def aeO (p:Piece):Pure C 6 [p.dv] (.d (.bool p.short)) []:=by
 refine ah rH aS ?_;simp only[rH,aS,fD,O,RN,B,E,F,I,J,N]
 by_cases h1:p.cs.length<=8
 case neg=>
  have a:¬(p.cs.length:Int)<=8:=by omega
  simp only[a,RN,B,E,F,I,J,N];simp[Piece.short,h1]
 have a:(p.cs.length:Int)<=8:=by omega
 by_cases h2:p.ws.length<=10
 case neg=>
  have b:¬(p.ws.length:Int)<=10:=by omega
  simp only[a,b,O,RN,B,E,F,I,J,N];simp[Piece.short,h1,h2]
 have b:(p.ws.length:Int)<=10:=by omega
 by_cases e:p.ms.length<=13
 case neg=>
  have c:¬(p.ms.length:Int)<=13:=by omega
  simp only[a,b,c,O,RN,B,E,F,I,J,N];simp[Piece.short,h1,h2,e]
 have c:(p.ms.length:Int)<=13:=by omega
 simp only[a,b,c,O,RN,B,E,F,I,J,N];simp[Piece.short,h1,h2,e]
def adG:ai1.place 5 0 1=(⟨28,8⟩,0):=by decide+kernel
def jG:Pure C 8 [] (.d (.bool true)) []:=by
 have a:=afh ahv ai1 (by decide) (by decide) (by decide) 5 0 1;rw[adG]at a;have b:=acd [1,2,8,9] [8,9,1,2] (by decide) (by decide) rfl;have e:yN [1,2,8,9] [8,9,1,2] 0 4=some 2:=by decide
 rw[show([1,2,8,9]:List Int).length=4 from rfl,e]at b;refine ah qL aeB ?_;simp only[qL,aeB,RN,B,E,F,I,J,N];refine au P_c ?_;(try simp only[RN,B,E,F,I,J,N]);refine au a ?_;simp only[sK,RN,B,E,F,I,J,N];refine GZ rfl rfl rfl ?_;(try simp only[RN,B,E,F,I,J,N]);refine GZ rfl rfl rfl ?_;(try simp only[RN,B,E,F,I,J,N]);refine au b ?_;(try simp only[RN,B,E,F,I,J,N]);refine au afl ?_;(try simp only[RN,B,E,F,I,J,N]);refine fG rfl rfl (ZI vS Tf (by kernel_rfl) (by decide:SL.size<=1500) (by kernel_rfl) ako) ?_;have c:(Hw.toList==Hw.toList)=true:=beq_self_eq_true _;have f:(((2:Nat):Int)==2)=true:=rfl;have ha:(.str ⟨#[49,32,51,32,51,32,52,10,50,32,49,32,51,10,49,48,10]⟩:DV)= .str Hw:=rfl;simp only[z1,f,lU,Jl,ha,c,RN,B,E,F,I,J,N];rw[Ib (t:=true) rfl];have g:(true !=false)=true:=rfl;simp only[z1,f,g,lU,Jl,ha,c,RN,B,E,F,I,J,N]
def dH (p:Piece)(o:Pt)(i:Nat):gQ:=⟨(p.pt i).x - o.x,(p.pt i).y - o.y,(p.wh i).aO⟩
variable{x:Int}
def akD (h: -1000<=x/\x<=1000):sqW [x] 0=x*x:=by
 have b:=Gs (n:=x) (k:=1000) (by omega);simp only[sqW,w64];rw[aF (n:=x*x) (by omega),aF (by omega)];omega
def akE {y:Int}(h: -1000<=x/\x<=1000)(h': -1000<=y/\y<=1000):sqW [x,y] 0=x*x+y*y:=by
 have b:=Gs (n:=x) (k:=1000) (by omega);have a:=Gs (n:=y) (k:=1000) (by omega);simp only[sqW,w64];rw[aF (n:=x*x) (by omega),aF (n:=y*y) (by omega),aF (n:=0+x*x) (by omega),aF (by omega)];omega
structure gQ.fine (b:gQ):Prop where
 r:1<=b.r/\b.r<=20
 x: -100<=b.x/\b.x<=100
 y: -100<=b.y/\b.y<=100
 o:b.r*b.r<b.x*b.x+b.y*b.y
def gQ.aja {b:gQ}(h:b.fine):b.ok1=true:=by
 obtain⟨h1,h2,a,c⟩:=h;rw[gQ.ok1,akD (by omega),akE (by omega) (by omega)];simp only[inR,V,decide_eq_true_eq,bi,decide_eq_false_iff_not];omega
variable{o:Pt}{i k:Nat}
def adW (hi:(dH p o i).fine)(hk:(dH p o k).fine):(dH p o i).off (dH p o k)=decide (p.sum i k*p.sum i k<p.far i k):=by
 obtain⟨j,l,m,_⟩:=hi;obtain⟨q,s,t,_⟩:=hk;have a:(dH p o i).x - (dH p o k).x=(p.pt i).x - (p.pt k).x:=by simp only[dH];omega
 have b:(dH p o i).y - (dH p o k).y=(p.pt i).y - (p.pt k).y:=by simp only[dH];omega
 have c:(dH p o i).r+(dH p o k).r=p.sum i k:=rfl;have d:=aF (n:=(dH p o i).x - (dH p o k).x) (by omega);have e:=aF (n:=(dH p o i).y - (dH p o k).y) (by omega);have f:=aF (n:=(dH p o i).r+(dH p o k).r) (by omega);rw[a]at d;rw[b]at e;rw[c]at f;have g:=akE (x:=(p.pt i).x - (p.pt k).x) (y:=(p.pt i).y - (p.pt k).y) (by omega) (by omega);have h:=akD (x:=p.sum i k) (by omega);simp only[gQ.off,w64,d,e,f,a,b,c,g,h,Piece.far,sq];rw[<-decide_not];exact decide_eq_decide.2 Int.not_le
def akF {s g:Int}(hs:0<=s)(hg:1<=g):s*s<(s+g)*(s+g):=by
 have e:(s+g)*(s+g)=s*s+(s*g+g*(s+g)):=by rw[Int.add_mul,Int.mul_add s s g];omega
 have h1:=Int.mul_nonneg hs (show 0<=g by omega);have h2:0<g*(s+g):=Int.mul_pos (by omega) (by omega);omega
def ab2 (d:p.ok=true){a b:Nat}(ha:a<p.ws.length)(hb:b<p.ws.length)(i:a≠b)(hl:(p.wh a).layer=(p.wh b).layer)(g:p.wY a b=false)(hg:1<=p.ga)(c:p.wrong [] a b=0):p.sum a b*p.sum a b<p.far a b:=by
 have h:p.mesh a b=false:=by rw[abk (fun m g=>(ajb d m g).2.1),g]
 have e:p.level a b=true:=beq_iff_eq.2 hl;have t1:=Piece.NP d _ (getD_mem ha);have t2:=Piece.NP d _ (getD_mem hb);have j:0<=p.sum a b:=by rw[Piece.sum];simp only[Piece.wh,S];omega
 rw[Piece.wrong,if_neg (by omega)]at c
 by_cases h1:p.apart a b=true
 ·rw[if_pos h1]at c;cases c
 rw[if_neg h1]at c
 by_cases h2:p.touch a b=true
 ·rw[if_pos h2]at c;cases c
 rw[if_neg h2]at c
 by_cases f:p.same a b=true
 ·rw[if_pos f]at c;cases c
 rw[Piece.same,e,b9]at f;simp only[Piece.touch,h,e,bN,av,V,bi,decide_eq_true_eq,not_and,Int.not_lt]at h2;have h2:=h2 (by simpa using f);rw[sq]at h2;have:=akF j hg;omega
def aaO {a b:Nat}(g:a≠b)(hl:(p.wh a).layer=(p.wh b).layer)(hf:p.sum a b*p.sum a b<p.far a b):Piece.wrong {p with ga:=0} [] a b≠3/\Piece.wrong {p with ga:=0} [] a b≠4:=by
 have h:Piece.level {p with ga:=0} a b=true:=beq_iff_eq.2 hl;have d:Piece.o9 {p with ga:=0} a b=false:=by
  rw[Piece.o9,beq_eq_false_iff_ne];intro d;have e:p.pt a=p.pt b:=congrArg (fun c:Int=>p.cs.getD c.toNat default) d;have:=Gs (n:=p.sum a b) (k:=(p.sum a b).natAbs) (by omega);rw[Piece.far,e,cp,cp]at hf;simp only[sq]at hf;omega
 have j:Piece.touch {p with ga:=0} a b=false:=by
  have e:sq (Piece.sum {p with ga:=0} a b+0)=p.sum a b*p.sum a b:=by rw[sq,Int.add_zero];rfl
  have f:Piece.far {p with ga:=0} a b=p.far a b:=rfl;rw[Piece.touch]
  show(_&&_&&_&&decide (_<sq (Piece.sum {p with ga:=0} a b+0)))=false
  rw[e,f,decide_eq_false (by omega),Bool.and_false]
 have i:Piece.same {p with ga:=0} a b=false:=by rw[Piece.same,d];rfl
 rw[Piece.wrong,if_neg (by omega),j,i,if_neg (show¬false=true by decide),if_neg (show¬false=true by decide)]
 split
 ·decide
 ·split
  ·decide
  ·split<;>decide
def afp (h:p.ok=true):Piece.ok {p with ga:=0}=true:=by
 simp only[Piece.ok,Piece.DL,V]at h⊢;exact⟨⟨⟨⟨⟨⟨h.1.1.1.1.1.1,by decide⟩,h.1.1.1.1.2⟩,h.1.1.1.2⟩,h.1.1.2⟩,h.1.2⟩,h.2⟩
def TN {own:List Nat}(h1:1<=own.length/\own.length<=5)(hf:∀i∈own,(dH p o i).fine):
  jw (own.map (dH p o))=true↔∀i k,i<own.length->k<i->p.sum (own.getD i default) (own.getD k default)*p.sum (own.getD i default) (own.getD k default)<p.far (own.getD i default) (own.getD k default):=by
 have g:inR ((own.map (dH p o)).length:Int) 1 5=true:=by simp only[O,inR,V,decide_eq_true_eq];omega
 have b:∀i,i<own.length->(own.map (dH p o)).getD i default=dH p o (own.getD i default):=fun i a=>by
  simp[List.getD,a]
 rw[jw,g,av,a8];constructor
 ·intro h i k a f
  have:=h i (by simpa using a);rw[Ph,V,a8,b i a]at this;have:=this.2 (dH p o (own.getD k default)) (by
   rw[<-b k (by omega)];refine aR.2 ⟨k,by simp;omega,?_⟩;rw[ab,ae (by simp;omega)];rfl)
  rw[adW (hf _ (getD_mem a)) (hf _ (getD_mem (by omega)))]at this;exact of_decide_eq_true this
 ·intro h i a
  have a:i<own.length:=by simpa using a
  rw[Ph,V,a8,b i a];refine⟨gQ.aja (hf _ (getD_mem a)),fun c j=> ?_⟩;obtain⟨k,f,rfl⟩:=aR.1 j;have d:k<i:=by simp at f;omega
  have e:(own.map (dH p o))[k]'(by simp;omega)=dH p o (own.getD k default):=by
   rw[<-b k (by omega),ab,ae (by simp;omega)];rfl
  rw[e,adW (hf _ (getD_mem a)) (hf _ (getD_mem (by omega)))];exact decide_eq_true (h i k a d)
def P8 (n:Nat):DV:=dI n
def Rh {n:Nat}:P8 n=dI n:=rfl
def Pt.cells (c:Pt):List DV:=[dI c.x,dI c.y]
structure ajx (p:Piece) (L:Int) (o:Pt) (i:Nat) (own:List Nat):Prop where
 ok:∀a∈own,(p.wh a).layer=L/\(dH p o a).fine
 lt:∀a∈own,a<i
 up:own.Pairwise (·<·)
 len:own.length<=i
def aiv {α:Type}{a b:α}{l:List α}:(a::b::l)[1]?=some b:=rfl
def Seen (i k i' k':Nat):Prop:=k'<i'/\(i'<i\/i'=i/\k'<k)
structure Inv (p:Piece) (own:List Nat) (i k:Nat) (f a:Bool):Prop where
 fr:f=true->1<=p.ga/\∀i' k',Seen i k i' k'->p.wrong [] (own.getD i' default:Nat) (own.getD k' default:Nat)=0
 me:∀i' k',Seen i k i' k'->p.wY (own.getD i' default:Nat) (own.getD k' default:Nat)=false
 ap:a=false->∃i' k',i'<own.length/\k'<i'/\(Piece.wrong {p with ga:=0} [] (own.getD i' default:Nat) (own.getD k' default:Nat)=3\/Piece.wrong {p with ga:=0} [] (own.getD i' default:Nat) (own.getD k' default:Nat)=4)
variable{f a:Bool}
def Inv.next {own:List Nat}(h:Inv p own i i f a):Inv p own (i+1) 0 f a:=
 ⟨fun d=>⟨(h.fr d).1,fun b c e=>(h.fr d).2 b c (by unfold Seen at*;omega)⟩,fun b c e=>h.me b c (by unfold Seen at*;omega),h.ap⟩
def Inv.step {own:List Nat}(h:Inv p own i k f a)(hi:i<own.length)(hk:k<i){u v:Int}
  (m:p.wY (own.getD i default:Nat) (own.getD k default:Nat)=false)(n:u=p.wrong [] (own.getD i default:Nat) (own.getD k default:Nat))(hv:v=Piece.wrong {p with ga:=0} [] (own.getD i default:Nat) (own.getD k default:Nat)):
  ∀j g:Bool,j=(f&&(u==0))->g=(a&&((v !=3)&&(v !=4)))->Inv p own i (k+1) j g:=by
 rintro j g rfl rfl;have l:∀b c,Seen i (k+1) b c->Seen i k b c\/(b=i/\c=k):=fun b c h=>by unfold Seen at*;omega
 refine⟨fun e=> ?_,fun b c d=> ?_,fun ha=> ?_⟩
 ·simp only[V,beq_iff_eq]at e
  refine⟨(h.fr e.1).1,fun b c d=> ?_⟩
  rcases l b c d with d|⟨rfl,rfl⟩
  ·exact(h.fr e.1).2 b c d
  ·rw[<-n,e.2]
 ·rcases l b c d with d|⟨rfl,rfl⟩
  ·exact h.me b c d
  ·exact m
 ·cases a
  ·exact h.ap rfl
  ·refine⟨i,k,hi,hk,?_⟩
   rw[<-hv];simp only[av,Bool.and_eq_false_iff,bne_eq_false_iff_eq]at ha;exact ha
def ahL (p:Piece)(L:Int)(o:Pt):Pure C 3 [p.dv,dI L,o.dv] (.d (.bool true)) []:=by
 have G:=aeO p;rw[fD]at G;refine dR (aC oW iH ?_);simp only[oW,iH,fD,sK,RN,B,E,F,I,J,N];refine au G ?_;cases X:p.short
 ·(try simp only[RN,B,E,F,I,J,N])
  exact au jG (by(try simp only[RN,B,E,F,I,J,N]);rfl)
 simp only[Piece.short,V,decide_eq_true_eq]at X;obtain⟨⟨s1,s2⟩,s3⟩:=X;have h2:=aee p (by omega) (by omega) (by omega);rw[fD]at h2;(try simp only[RN,B,E,F,I,J,N]);refine au h2 ?_;cases r:p.ok
 ·(try simp only[RN,B,E,F,I,J,N])
  exact au jG (by(try simp only[RN,B,E,F,I,J,N]);rfl)
 by_cases R:o.x<0
 ·simp only[R,RN,B,E,F,I,J,N]
  exact au jG (by(try simp only[RN,B,E,F,I,J,N]);rfl)
 by_cases c2:o.x>120
 ·simp only[R,c2,RN,B,E,F,I,J,N]
  exact au jG (by(try simp only[RN,B,E,F,I,J,N]);rfl)
 by_cases c3:o.y<0
 ·simp only[R,c2,c3,RN,B,E,F,I,J,N]
  exact au jG (by(try simp only[RN,B,E,F,I,J,N]);rfl)
 by_cases c4:o.y>120
 ·simp only[R,c2,c3,c4,RN,B,E,F,I,J,N]
  exact au jG (by(try simp only[RN,B,E,F,I,J,N]);rfl)
 simp only[R,c2,c3,c4,RN,B,E,F,I,J,N];have hg:=Piece.IB r;refine aG p.ws.length (fun i (q:List Nat×Nat×Nat)=>⟨[(1,pI L),(3, .d (.aV p.cells)),(5, .d (.aV o.cells)),(7, .tsl 0 q.2.1 0),(8, .tsl 1 q.2.2 0),(9,pI i)],
   ⟨[some (p.cells.map .d),some (o.cells.map .d)],[1,0],[some ⟨3,(q.1.map (dH p o)).map gQ.dv,q.2.1,0⟩,some ⟨1,q.1.map P8,q.2.2,0⟩]⟩⟩)
  (fun i q=>ajx p L o i q.1) 0 ([],0,0) (Y _) rfl ⟨fun _ h=>(by cases h),fun _ h=>(by cases h), .nil,cj _⟩ (fun i q t g=> ?_) (fun q g=> ?_)
 ·obtain⟨own,v1,v2⟩:=q
  simp only at g;obtain⟨g2,g3,g6⟩:=rng t (by omega);have U:=g.len;obtain⟨⟨w1,w2⟩,t1,t2,_⟩:=pz hg (show p.isW i from⟨by omega,by simpa using t⟩);have xa:=ER hg (show p.isW i from⟨by omega,by simpa using t⟩);have tt:=(Piece.NP r _ (getD_mem t)).1;simp only[Piece.wh,S]at w1 w2 t1 t2;have eb:dH p o i=⟨(p.cs.getD (p.ws.getD i default).iY.toNat default).x - o.x,(p.cs.getD (p.ws.getD i default).iY.toNat default).y - o.y,(p.ws.getD i default).aO⟩:=rfl;have eL:p.wh (i:Int)=p.ws.getD i default:=rfl;simp only[Piece.pt,Piece.wh,S]at xa;simp only[Piece.cells,Pt.cells,g2,g3,t,getD_map,S,O,jX,RN,B,E,F,I,J,N];generalize p.ws.getD i default=w at*
  by_cases e:w.layer=L
  case neg=>
   have e':(w.layer !=L)=true:=bne_iff_ne.2 e;simp only[e',g6,RN,B,E,F,I,J,N];exact bK 2 2 (own,v1,v2) t rfl ⟨g.ok,fun a h=>by have:=g.lt a h;omega,g.up,Nat.le_succ_of_le g.len⟩ (by simp) (by simp) rfl rfl
  have e':(w.layer !=L)=false:=bne_eq_false_iff_eq.2 e;simp only[e',w1,w2,getD_map,sK,O,RN,B,E,F,I,J,N];generalize p.cs.getD w.iY.toNat default=c at*;have hx: -1000<=c.x - o.x/\c.x - o.x<=1000:=by omega
  have hy: -1000<=c.y - o.y/\c.y - o.y<=1000:=by omega
  have P:cr .i64 (c.x - o.x)=c.x - o.x:=aF (by omega);have Q:cr .i64 (c.y - o.y)=c.y - o.y:=aF (by omega);obtain⟨x,an⟩:∃x,x=c.x - o.x:=⟨_,rfl⟩
  obtain⟨y,ao⟩:∃y,y=c.y - o.y:=⟨_,rfl⟩
  rw[<-an]at P hx eb;rw[<-ao]at Q hy eb;have bx:=Gs (n:=x) (k:=1000) (by omega);have aM:=Gs (n:=y) (k:=1000) (by omega);have bt:=Gs (n:=w.aO) (k:=1000) (by omega);have e3:cr .i64 (x*x)=x*x:=aF (by omega);have e4:cr .i64 (y*y)=y*y:=aF (by omega);have e5:cr .i64 (x*x+y*y)=x*x+y*y:=aF (by omega);have e6:cr .i64 (w.aO*w.aO)=w.aO*w.aO:=aF (by omega);simp only[P,Q,<-an,<-ao]
  by_cases A:w.aO>20
  ·simp only[A,RN,B,E,F,I,J,N]
   exact au jG (by(try simp only[RN,B,E,F,I,J,N]);rfl)
  by_cases M:x< -100
  ·simp only[A,M,RN,B,E,F,I,J,N]
   exact au jG (by(try simp only[RN,B,E,F,I,J,N]);rfl)
  by_cases T:x>100
  ·simp only[A,M,T,RN,B,E,F,I,J,N]
   exact au jG (by(try simp only[RN,B,E,F,I,J,N]);rfl)
  by_cases d4:y< -100
  ·simp only[A,M,T,d4,RN,B,E,F,I,J,N]
   exact au jG (by(try simp only[RN,B,E,F,I,J,N]);rfl)
  by_cases d5:y>100
  ·simp only[A,M,T,d4,d5,RN,B,E,F,I,J,N]
   exact au jG (by(try simp only[RN,B,E,F,I,J,N]);rfl)
  by_cases d6:x*x+y*y<=w.aO*w.aO
  ·simp only[A,M,T,d4,d5,d6,e3,e4,e5,e6,RN,B,E,F,I,J,N]
   exact au jG (by(try simp only[RN,B,E,F,I,J,N]);rfl)
  simp only[A,M,T,d4,d5,d6,e3,e4,e5,e6,dV,fits_int,forall_eq,DV.strip,gZ,O,RN,B,E,F,I,J,N];refine⟨rfl,by simp,by omega,by simp,by omega,?_⟩;simp only[g6];refine bK 2 2 (own++ [i],v1+1,v2+1) t ?_ ⟨fun a h=> ?_,fun a h=> ?_,?_,?_⟩ (by simp) (by simp) rfl rfl
  ·simp only[br,aE,bB,eb,wS,Rh];rfl
  ·rcases a6.1 h with h|h
   ·exact g.ok a h
   ·obtain rfl:=az.1 h
    exact⟨by rw[eL];exact e,by rw[eb];exact⟨by simp only;omega,by simp only;omega,by simp only;omega,by simp only;omega⟩⟩
  ·rcases a6.1 h with h|h
   ·exact Nat.lt_succ_of_lt (g.lt a h)
   ·obtain rfl:=az.1 h
    exact Nat.lt_succ_self _
  ·exact List.pairwise_append.2 ⟨g.up,by simp,fun a ha b hb=>by obtain rfl:=az.1 hb;exact g.lt a ha⟩
  ·simp only[am,a7];omega
 ·obtain⟨own,v1,v2⟩:=q
  simp only at g;have U:=g.len;simp only[Z,O,Piece.cells,Pt.cells,cg,RN,B,E,F,I,J,N]
  by_cases l1:(own.length:Int)<1
  ·simp only[l1,Go.Tel.zF (k:=0) bh,Go.Tel.zF (k:=1) aiv,RN,B,E,F,I,J,N]
   exact au jG (by(try simp only[RN,B,E,F,I,J,N]);rfl)
  by_cases l2:(own.length:Int)>5
  ·simp only[l1,l2,cg,O,Go.Tel.zF (k:=0) bh,Go.Tel.zF (k:=1) aiv,RN,B,E,F,I,J,N]
   exact au jG (by(try simp only[RN,B,E,F,I,J,N]);rfl)
  simp only[l1,l2,cg,O,Go.Tel.zF (k:=0) bh,Go.Tel.zF (k:=1) aiv,RN,B,E,F,I,J,N];have D:(decide (p.ga>0)=true->1<=p.ga):=fun h=>by have:=of_decide_eq_true h;omega
  refine aG own.length (fun i (q:Bool×Bool)=>⟨[(3, .d (.aV p.cells)),(7, .d (sF ((own.map (dH p o)).map gQ.dv))),(8, .d (sF (own.map P8))),(14, .ptr 2 0),(15, .d (.bool q.1)),(16, .d (.bool q.2)),(17,pI i)],
    ⟨[some (p.cells.map .d),some (o.cells.map .d),some (({p with ga:=0}:Piece).cells.map .d)],[1,0],[some ⟨3,(own.map (dH p o)).map gQ.dv,v1,2⟩,some ⟨1,own.map P8,v2,2⟩]⟩⟩)
   (fun i q=>Inv p own i 0 q.1 q.2) 0 (decide (p.ga>0),true) (Y _) rfl ⟨fun h=>⟨D h,fun i' k' h=>by unfold Seen at h;omega⟩,fun i' k' h=>by unfold Seen at h;omega,fun h=>(by cases h)⟩ (fun i q K j=> ?_) (fun q j=> ?_)
  ·obtain⟨i2,i3,i6⟩:=rng K (by omega)
   simp only[i2,O,RN,B,E,F,I,J,N];refine aG i (fun k (q:Bool×Bool)=>⟨[(3, .d (.aV p.cells)),(7, .d (sF ((own.map (dH p o)).map gQ.dv))),(8, .d (sF (own.map P8))),(14, .ptr 2 0),(15, .d (.bool q.1)),(16, .d (.bool q.2)),(17,pI i),(18,pI k)],
     ⟨[some (p.cells.map .d),some (o.cells.map .d),some (({p with ga:=0}:Piece).cells.map .d)],[1,0],[some ⟨3,(own.map (dH p o)).map gQ.dv,v1,2⟩,some ⟨1,own.map P8,v2,2⟩]⟩⟩)
    (fun k q=>Inv p own i k q.1 q.2) 0 q (Y _) rfl j (fun k q k1 m=> ?_) (fun q m=> ?_)
   ·obtain⟨k2,k3,k6⟩:=rng k1 (by omega)
    obtain⟨f,a⟩:=q;simp only at m;have k4:k<own.length:=by omega
    have n1:=g.lt _ (getD_mem K);have n2:=g.lt _ (getD_mem k4);have hm:=abz p (own.getD i default:Nat) (own.getD k default:Nat) (by omega);have hM:=YN p (by omega) (by omega) (by omega) (own.getD i default:Nat) (own.getD k default:Nat);have hB:=YN {p with ga:=0} (by simp only;omega) (by simp only;omega) (by simp only;omega) (own.getD i default:Nat) (own.getD k default:Nat);rw[TB r n1 n2]at hM;rw[TB (afp r) n1 n2]at hB;rw[fD]at hm hM hB;have H:=m.step K k1 (u:=p.wrong [] (own.getD i default:Nat) (own.getD k default:Nat)) (v:=Piece.wrong {p with ga:=0} [] (own.getD i default:Nat) (own.getD k default:Nat));have z0:((0:Int) !=0)=false:=rfl;simp only[Piece.cells,Pt.cells,k2,K,i3,k3,k4,getD_map,Rh,S,O,RN,B,E,F,I,J,N];refine au hm ?_;cases aL:p.wY (own.getD i default:Nat) (own.getD k default:Nat)
    case true=>
     (try simp only[RN,B,E,F,I,J,N]);exact au jG (by(try simp only[RN,B,E,F,I,J,N]);rfl)
    simp only[k2,K,i3,k3,k4,getD_map,Rh,S,O,RN,B,E,F,I,J,N];refine au hM ?_;simp only[k2,K,i3,k3,k4,getD_map,Rh,S,O,RN,B,E,F,I,J,N];refine au hB ?_;have H:=H aL rfl rfl;generalize p.wrong [] (own.getD i default:Nat) (own.getD k default:Nat)=u at*;generalize Piece.wrong {p with ga:=0} [] (own.getD i default:Nat) (own.getD k default:Nat)=v at*;clear hM hB hm G h2;cases f<;>cases a<;>cases hu:(u==0)<;>cases ac:(v !=3)<;>cases ai:(v !=4)<;>
     (simp only[hu,ac,ai,z0,k6,RN,B,E,F,I,J,N];exact bK 3 2 (_,_) k1 rfl (H _ _ (by simp[hu]) (by simp[ac,ai])) (by simp) (by simp) rfl rfl)
   ·obtain⟨f,a⟩:=q
    simp only at m;simp only[Z,i6,RN,B,E,F,I,J,N];exact bK 3 2 (f,a) K rfl m.next (by simp) (by simp) rfl rfl
  ·obtain⟨f,a⟩:=q
   simp only at j;have ax:∀i∈own,(dH p o i).fine:=fun i l=>(g.ok i l).2
   have W:∀i k,i<own.length->k<i->own.getD i default≠own.getD k default:=fun i k l s=>by
    have:=List.pairwise_iff_getElem.1 g.up k i (by omega) l s;rw[ab,ab,ae l,ae (show k<own.length by omega)];simp only[Option.getD_some];omega
   have hL:∀i k,i<own.length->k<i->(p.wh (own.getD i default:Nat)).layer=(p.wh (own.getD k default:Nat)).layer:=fun i k l s=>by
    rw[(g.ok _ (getD_mem l)).1,(g.ok _ (getD_mem (show k<own.length by omega))).1]
   have z:=TN (p:=p) (o:=o) (own:=own) ⟨by omega,by omega⟩ ax;have aD:f=true->jw (own.map (dH p o))=true:=fun hf=>by
    refine z.2 fun i k l s=> ?_
    obtain⟨t,g2⟩:=j.fr hf;have X:Seen own.length 0 i k:=⟨s, .inl l⟩
    exact ab2 r (g.lt _ (getD_mem l)) (g.lt _ (getD_mem (show k<own.length by omega))) (W i k l s) (hL i k l s) (j.me i k X) t (g2 i k X)
   have aw:jw (own.map (dH p o))=true->a=true:=fun hb=>by
    cases a with
    |true=>rfl
    |false=>
     obtain⟨i,k,l,s,h⟩:=j.ap rfl;have:=aaO (W i k l s) (hL i k l s) (z.1 hb i k l s);omega
   have aq:=YL (own.map (dH p o)) (by simp;omega);have av:=ahG (own.map (dH p o)) (by simp;omega);have z0:((0:Int) !=0)=false:=rfl;have z2:((2:Int) !=2)=false:=rfl;have z3:((2:Int) !=0)=true:=rfl;have z4:((2:Int)==0)=false:=rfl;simp only[Z,O,RN,B,E,F,I,J,N];refine au aq ?_;(try simp only[RN,B,E,F,I,J,N]);refine au av ?_;cases hb:jw (own.map (dH p o))
   ·have P:=MB hb
    have Q:f=false:=by
     cases hf:f
     ·rfl
     ·rw[aD hf]at hb;cases hb
    simp only[P,Q,z0,z1,z2,z3,z4,RN,B,E,F,I,J,N];exact au jG (by(try simp only[RN,B,E,F,I,J,N]);rfl)
   ·have P:=MC hb
    have Q:=aw hb;have e3:(Px (own.map (dH p o))).length=own.length:=by rw[Px,if_pos hb];simp
    have e4:((own.length:Int) !=(own.length:Int))=false:=bne_self_eq_false _;cases f<;>(simp only[P,Q,z0,z1,z2,z3,z4,O,e3,e4,RN,B,E,F,I,J,N];exact au jG (by(try simp only[RN,B,E,F,I,J,N]);rfl))
end Go.Tel
namespace Go.Am
variable{k:IntKind}{ds:List DV}
def Y6 (h:Has (.int k) ds):∃n,ds=[.int k n]:=by cases h;exact⟨_,rfl⟩
def LU (h:Has (.struct []) ds):ds=[]:=by cases h;rfl
variable{ts:List Ty}
def UD {t:Ty}(h:Has (.struct (t::ts)) ds):∃a b,ds=a++b/\Has t a/\Has (.struct ts) b:=by cases h with|cons h c=>exact⟨_,_,rfl,h,c⟩
def zU (h:Has (.struct (.int k::ts)) ds):∃n b,ds= .int k n::b/\Has (.struct ts) b:=by
 obtain⟨a,b,rfl,h1,h2⟩:=UD h;obtain⟨n,rfl⟩:=Y6 h1;exact⟨n,b,rfl,h2⟩
def acj {α:Type}{e:Ty}{dv:α->DV}:∀{xs:List DV},(∀x∈xs,∃a,x=dv a)->∃l:List α,xs=l.map dv
 | [],_=>⟨[],rfl⟩
 |x::xs,h=>by
  obtain⟨a,rfl⟩:=h x List.mem_cons_self;obtain⟨l,rfl⟩:=acj (e:=e) fun y b=>h y (List.mem_cons_of_mem _ b)
  exact⟨a::l,rfl⟩
variable{e:Ty}
def aiB {α:Type}{dv:α->DV}(hd:∀x,Has e x.cells->Shp e x->∃a,x=dv a){ds:List DV}(h:Has (.slice e) ds):∃l:List α,ds=[.slice false (l.map dv)]:=by
 cases h with
 |slice h c=>
  rename_i xs
  obtain⟨l,rfl⟩:=acj (e:=e) fun x b=>hd x (h x b) (c x b)
  exact⟨l,rfl⟩
def adk {α:Type}{dv:α->DV}(hd:∀x,Has e x.cells->Shp e x->∃a,x=dv a){ts:List Ty}{ds:List DV}(h:Has (.struct (.slice e::ts)) ds):∃(l:List α) (b:List DV),ds= .slice false (l.map dv)::b/\Has (.struct ts) b:=by
 obtain⟨a,b,rfl,h1,h2⟩:=UD h;obtain⟨l,rfl⟩:=aiB hd h1;exact⟨l,b,rfl,h2⟩
def ahm {T:Ty}{Ts:List Ty}{xs:List DV}(h:AX (T::Ts) xs):∃x l,xs=x::l/\ZJ T x/\AX Ts l:=by
 cases xs with
 |nil=>exact h.elim
 |cons x l=>exact⟨x,l,rfl,h.1,h.2⟩
def aix {xs:List DV}(h:AX [] xs):xs=[]:=by
 cases xs with
 |nil=>rfl
 |cons x l=>exact h.elim
end Go.Am
namespace Go.Tel
open Go.Am
abbrev NY:Ty:= .struct [.int .i64, .int .i64]
abbrev ajs:Ty:= .struct [.int .i64, .int .i64, .int .i64, .int .i64]
abbrev Fa:Ty:= .struct [.int .i64, .int .i64, .int .i64, .int .i64, .int .i64, .slice NY, .slice ajs, .slice NY]
def aiA (x:DV)(h:Has NY x.cells)(hs:Shp NY x):∃p:Pt,x=p.dv:=by
 obtain⟨cs,rfl⟩:=hs.1 rfl;obtain⟨a,_,c,h1⟩:=zU h;obtain⟨b,_,rfl,h2⟩:=zU h1;obtain rfl:=LU h2;exact⟨⟨a,b⟩,by rw[Pt.dv];exact congrArg DV.agg c⟩
def aiz (x:DV)(h:Has NY x.cells)(hs:Shp NY x):∃p:Ms,x=p.dv:=by
 obtain⟨cs,rfl⟩:=hs.1 rfl;obtain⟨a,_,c,h1⟩:=zU h;obtain⟨b,_,rfl,h2⟩:=zU h1;obtain rfl:=LU h2;exact⟨⟨a,b⟩,by rw[Ms.dv];exact congrArg DV.agg c⟩
def aiC (x:DV)(h:Has ajs x.cells)(hs:Shp ajs x):∃p:Wh,x=p.dv:=by
 obtain⟨cs,rfl⟩:=hs.1 rfl;obtain⟨a,_,e,h1⟩:=zU h;obtain⟨b,_,rfl,h2⟩:=zU h1;obtain⟨c,_,rfl,f⟩:=zU h2;obtain⟨d,_,rfl,g⟩:=zU f;obtain rfl:=LU g;exact⟨⟨a,b,c,d⟩,by rw[Wh.dv];exact congrArg DV.agg e⟩
variable{x:DV}
def ajP (h:ZJ (.int .i64) x):∃n:Int,x= .int .i64 n:=by
 obtain⟨n,h1⟩:=Y6 h.1;rw[h.2.2 rfl]at h1;exact⟨n,(List.cons.inj h1).1⟩
def aiy (h:ZJ Fa x):∃p:Piece,x=p.dv:=by
 obtain⟨h,r⟩:=h;obtain⟨cs,rfl⟩:=r.1 rfl;obtain⟨a,_,j,h1⟩:=zU h;obtain⟨b,_,rfl,h2⟩:=zU h1;obtain⟨c,_,rfl,k⟩:=zU h2;obtain⟨d,_,rfl,l⟩:=zU k;obtain⟨e,_,rfl,m⟩:=zU l;obtain⟨f,_,rfl,n⟩:=adk aiA m;obtain⟨g,_,rfl,o⟩:=adk aiC n;obtain⟨i,_,rfl,q⟩:=adk aiz o;obtain rfl:=LU q;exact⟨⟨a,b,c,d,e,f,g,i⟩,by rw[Piece.dv];exact congrArg DV.agg j⟩
end Go.Tel
namespace Go.Am
section
variable {H:Type}{enc:TypeId×Value->H}{P:Program}{w:World}{base:Nat}{spare:Nat->Bool}{held:Bool}
def LC:∀{ts:List TypeId} {vs:List Value} {ds:List (DataW H)} {ps:List MemPlace},DataW.TrodAll enc P w base spare held ts vs ds ps->ds.length=ts.length
 | [],[],[],_,_=>rfl
 |t::ts,v::vs,d::ds,ps,h=>by
  obtain⟨p,q,_,h2,_⟩:=h;rw[ao,ao,LC h2]
 | [],_::_,_,_,h=>by cases h
 | [],[],_::_,_,h=>by cases h
 | _::_,[],_,_,h=>by cases h
 | _::_,_::_,[],_,h=>by cases h
end
def akp {α:Type}{l:List α}(h:l.length=1):∃a,l=[a]:=List.length_eq_one_iff.1 h
def ahw {α:Type}{l:List α}{n:Nat}(h:l.length=n+1):∃a r,l=a::r/\r.length=n:=by
 cases l with
 |nil=>cases h
 |cons a r=>exact⟨a,r,rfl,by simpa using h⟩
def akq {α:Type}{l:List α}(h:l.length=2):∃a b,l=[a,b]:=by
 obtain⟨a,r,rfl,h1⟩:=ahw h;obtain⟨b,rfl⟩:=akp h1;exact⟨a,b,rfl⟩
def akr {α:Type}{l:List α}(h:l.length=3):∃a b c,l=[a,b,c]:=by
 obtain⟨a,r,rfl,h1⟩:=ahw h;obtain⟨b,c,rfl⟩:=akq h1;exact⟨a,b,c,rfl⟩
end Go.Am
namespace Go.Tel
open Go.Am
def alD {x:DV}(h:ZJ NY x):∃p:Pt,x=p.dv:=aiA x h.1 h.2
end Go.Tel
namespace Go.Am
variable{P:Program}{l:List (String×DataW Unit)}
def adP {w:World}(a:(l.filter fun x=>x.2.handleName?.isSome)=[])(h:laidMetH P l w):laidMet P l w:=by
 unfold laidMetH at h;rw[a]at h;exact h
def ZC {P:Program}{w:World}{n:String}{d:DataW Unit}:∀{l:List (String×DataW Unit)} {ps:List MemPlace},DataW.LaidVars P w l ps->(n,d)∈l->
  ∃g t cs a p,P.globalNamed n=some g/\(P.globals[g]?).map (·.type)=some t/\w.var? P n=some cs/\DataW.trod (fun _=>()) P w 0 (fun _=>true) false a t cs.toList=some (d,p)
 | [],_,_,h=>by cases h
 |(j,i)::l,ps,h,b=>by
  obtain⟨g,t,cs,a,p,q,h1,h2,c,e,f,_⟩:=h;cases b with
  |head=>exact⟨g,t,cs,a,p,h1,h2,c,e⟩
  |tail _ b=>exact ZC f b
def ae2 {W:World}{name:String}{k:IntKind}{zs:List Int}{g:Nat}{t e:TypeId}{n:Nat}
  (hg:P.globalNamed name=some g)(i:(P.globals[g]?).map (·.type)=some t)(q:P.underlying t=some (.array n e))(m:P.underlying e=some (.int k))(b:P.cellsOf e=1)(c:P.cellsOf t=n)
  (h:laidMet P l W)(o:(name,Lib.tabData k zs)∈l):Lib.TabIs P W name k zs:=by
 obtain⟨u,r,_⟩:=h;obtain⟨s,v,cs,j,p,d,f,a,hd⟩:=ZC r o;obtain rfl:=Option.some.inj (hg.symm.trans d);obtain rfl:=Option.some.inj (i.symm.trans f);unfold Lib.TabIs;rw[a,<-Lib.cells_of_tab q m b c hd]
end Go.Am
namespace Go.Tel
open Go.Am
def ai5 {W:World}(h:C.G W):∀b,C.low b->b<W.heap.size/\∀c T fz,W.heap[b]?=some (.cells c T fz)->∀(i:Nat) (n:Int),c[i]?≠some (.int .i64 n):=by
 intro b hb;have e:Go.Proofs.Tryz.prog.globalNamed "internal/strconv.uint64pow10" =some b:=hb;have a:W.var? Go.Proofs.Tryz.prog "internal/strconv.uint64pow10" =some (Go.Lib.pow10Tab.map fun z=>Value.int .u64 z).toArray:=h;unfold World.var? at a;rw[e]at a;simp only[Option.bind_some]at a;cases f:W.heap[b]? with
 |none=>rw[f]at a;cases a
 |some o=>
  rw[f]at a;refine⟨bZ f,fun c T fz j i n d=> ?_⟩;cases j;simp only[Option.some.injEq]at a;subst a;rw[List.getElem?_toArray,List.getElem?_map]at d;cases g:Go.Lib.pow10Tab[i]? with
  |none=>rw[g]at d;cases d
  |some z=>rw[g]at d;cases d
end Go.Tel
namespace Go.Proofs.YtkbhljmmnbgloaaGreatDoor
open Go.ChangeShapes Go.WideShapes Go.RowKit Go.Am
def fF {a b:Bool}(ha:a=true)(hb:b=true):(a&&b)=true:=by rw[ha,hb];rfl
def own:ownKnob Tryz.prog.godebug=none:=by kernel_rfl
def laidOut:laidOutB Tryz.prog=true:=by kernel_rfl
def FQ:List (String×DataW Unit):=Rows.topDiscsRow.laid
def laid_met (os:Os)(args:Array Value):laidMet Tryz.prog FQ ((World.laidAll Tryz.prog os FQ).forCall (fun _ _=>0) ⟨#[],args,[]⟩).memory:=
 laidMet_laidAll args (by kernel_rfl) (by kernel_rfl)
def aa7 (os:Os)(args:Array Value):laidMetH Tryz.prog FQ ((World.laidAll Tryz.prog os FQ).forCall (fun _ _=>0) ⟨#[],args,[]⟩).memory:=
 laidMetH_of_parts (laid_met os args) (by kernel_rfl)
def ae1:(Rows.laid_internal_strconv_uint64pow10:DataW Unit)=Lib.tabData .u64 Lib.pow10Tab:=rfl
def ag7:("internal/strconv.uint64pow10",(Rows.laid_internal_strconv_uint64pow10:DataW Unit))∈FQ:=List.Mem.tail _ (List.Mem.tail _ (List.Mem.head _))
def ajm {W:World}(h:laidMetH Tryz.prog FQ W):Go.Tel.C.G W:=
 ae2 (P:=Tryz.prog) (g:=1) (t:=450) (e:=279) (n:=20) (by kernel_rfl) (by kernel_rfl) (by kernel_rfl) (by kernel_rfl) (by kernel_rfl) (by kernel_rfl) (adP (by kernel_rfl) h) (ae1▸ag7)
end Go.Proofs.YtkbhljmmnbgloaaGreatDoor
