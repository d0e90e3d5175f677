/-
  Part 9 of a law of desks.
  Conditions: none.
-/
import Derived.Test.YtkbhljmmnbgloaaGreatDoorTopIdleM04
import Derived.Test.YtkbhljmmnbgloaaGreatDoorTopIdleM08
import Derived.Test.YtkbhljmmnbgloaaGreatDoorRows
import Derived.Lay
import Derived.Handed
import Derived.LaidHandle
import Derived.Lib.LaidTab
set_option linter.all false
set_option maxRecDepth 10000
set_option maxHeartbeats 4000000
open Nat renaming reduceBEq->E,reduceAdd->F,reduceSub->I,reduceEqDiff->J,reduceLT->L,reduceLeDiff->N
open Int renaming toNat_natCast->O,eq_ofNat_of_zero_le->S,natAbs_natCast->U,natCast_mul->Z,natAbs_mul->ab,one_mul->am
open List renaming length_map->Q,length_cons->X,length_append->Y,map_cons->ae,map_nil->ai
open Bool renaming and_eq_true->V
namespace Go.Tel
open Go.Am
def amc (n d:Nat):alD n d=⟨(Yr n d).n,(Yr n d).d⟩:=rfl
def amU (n d:Nat):alD (-(n:Int)) d=⟨-(Yr n d).n,(Yr n d).d⟩:=by
 rw[alD,Yr,Int.natAbs_neg,U,U,Int.neg_tdiv];rfl
def anr (u v:Nat):kY [⟨u,v⟩]=Yr u v:=by
 simp only[kY,ae,ai,lI,am,U]
def ant {u t v:Nat}(a:1<=t)(hv:1<=v):kY [⟨u,t⟩,⟨t,v⟩]=Yr u v:=by
 have h:=al8 (c:=(t:Int)) (n:=u) (d:=v) (by omega) (by omega);rw[show((t:Int)*u)=((u*t:Nat):Int) by rw[Z,Int.mul_comm],show((t:Int)*v)=((t*v:Nat):Int) by rw[Z],amc,amc,Tn.mk.injEq]at h;have e:kY [⟨u,t⟩,⟨t,v⟩]=Yr (u*t) (t*v):=by
  simp only[kY,ae,ai,lI,am];rw[ab,ab];rfl
 rw[e];obtain⟨h1,h2⟩:=h
 revert h1 h2
 generalize Yr (u*t) (t*v)=A;generalize Yr u v=B;intro h1 h2;cases A;cases B;simp only at h1 h2;rw[h1,h2]
def ano (n d:Nat):0<=(Yr n d).n/\(Yr n d).n<=n:=by
 exact⟨Int.natCast_nonneg _,Int.ofNat_le.2 (Nat.div_le_self _ _)⟩
def amo {l:List Pr}(c:1<=l.length/\l.length<=3)(h:∀p∈l,(4<=p.a/\p.a<=60)/\4<=p.b/\p.b<=60):Ht l=(kY l,(l.length:Int).tmod 2==0,0):=by
 rw[Ht,if_pos];simp only[pO,inR,V,decide_eq_true_eq,List.all_eq_true,ge_iff_le,Pr.ok,bH];exact⟨by omega,h⟩
def anu (p:Piece)(o:Pt)(aO a b:Int):Pure C 4 [p.dv,o.dv, .int .i64 aO, .int .i64 a, .int .i64 b] (.d (.bool true)) []:=by
 have R:=aeO p;rw[fD]at R;refine dR (aC alL aeB ?_);simp only[alL,aeB,fD,sK,RN,E,F,I,J,L,N];refine au R ?_;cases hs:p.short
 ·(try simp only[RN,E,F,I,J,L,N])
  exact au jG (by(try simp only[RN,E,F,I,J,L,N]);rfl)
 simp only[Piece.short,V,decide_eq_true_eq]at hs;obtain⟨⟨s1,s2⟩,s3⟩:=hs;have h2:=aee p (by omega) (by omega) (by omega);have h3:=fun w=>aef p w (by omega)
 have h4:=ana p b (by omega);simp only[fD]at h2 h3 h4;(try simp only[RN,E,F,I,J,L,N]);refine au h2 ?_;cases c:p.ok
 ·(try simp only[RN,E,F,I,J,L,N])
  exact au jG (by(try simp only[RN,E,F,I,J,L,N]);rfl)
 (try simp only[RN,E,F,I,J,L,N]);refine au (h3 _) ?_;cases g:inR a 0 (p.ws.length - 1)
 ·(try simp only[RN,E,F,I,J,L,N])
  exact au jG (by(try simp only[RN,E,F,I,J,L,N]);rfl)
 (try simp only[RN,E,F,I,J,L,N]);refine au (h3 _) ?_;cases f:inR b 0 (p.ws.length - 1)
 ·(try simp only[RN,E,F,I,J,L,N])
  exact au jG (by(try simp only[RN,E,F,I,J,L,N]);rfl)
 cases P:(a==b)
 case true=>
  simp only[P,RN,E,F,I,J,L,N];exact au jG (by(try simp only[RN,E,F,I,J,L,N]);rfl)
 simp only[P,RN,E,F,I,J,L,N];refine au h4 ?_;cases hr:p.room b
 ·(try simp only[RN,E,F,I,J,L,N])
  exact au jG (by(try simp only[RN,E,F,I,J,L,N]);rfl)
 simp only[inR,V,decide_eq_true_eq]at g f;obtain⟨a,rfl⟩:=S g.1;obtain⟨b,rfl⟩:=S f.1;have g:a<p.ws.length:=by omega
 have f:b<p.ws.length:=by omega
 have hW:=anb p (by omega) (by omega) (by omega) o aO a b ⟨by omega,by simpa using g⟩;have ai:jI a b=[(a:Int),(b:Int)]:=by rw[jI,if_pos (by omega)]
 rw[ai]at hW;obtain⟨q,m⟩:∃q,q=p.with o (p.wh a).layer aO [(a:Int),(b:Int)]:=⟨_,rfl⟩
 have am:q.cs.length<=1000/\q.ws.length<=1000/\q.ms.length<=1000:=by
  rw[m];simp only[Piece.with,Y,Q,X,List.length_nil];omega
 rw[<-m]at hW;have h5:=aee q (by omega) (by omega) (by omega);simp only[fD,sK]at hW h5;(try simp only[RN,E,F,I,J,L,N]);refine au hW ?_;(try simp only[RN,E,F,I,J,L,N]);refine au h5 ?_;cases k:q.ok
 ·(try simp only[RN,E,F,I,J,L,N])
  exact au jG (by(try simp only[RN,E,F,I,J,L,N]);rfl)
 have H:=amg p (by omega) (by omega) (by omega) a (fun _ h=>amM c h);have j:=amg p (by omega) (by omega) (by omega) b (fun _ h=>amM c h);have K:=amg q (by omega) (by omega) (by omega) a (fun _ h=>amM k h);simp only[fD]at H j K;have z0:((0:Int) !=0)=false:=rfl;have U:((7:Int) !=0)=true:=rfl;have A:((7:Int) !=2)=true:=rfl;have z:((0:Int) !=2)=true:=rfl;(try simp only[RN,E,F,I,J,L,N]);refine au H ?_
 rcases amD c g with⟨x,x1,W⟩|⟨⟨u,v,x1⟩, -⟩
 case inr=>
  rw[alX c g x1]
  rcases amD c f with⟨y,s,D⟩|⟨⟨u',v',s⟩, -⟩
  ·rw[al0 c f s]at j
   simp only[slD,RN,E,F,I,J,L,N];refine au j ?_;simp only[slD,U,A,z,RN,E,F,I,J,L,N];exact au jG (by(try simp only[RN,E,F,I,J,L,N]);rfl)
  ·rw[alX c f s]at j
   simp only[slD,RN,E,F,I,J,L,N];refine au j ?_;simp only[slD,U,A,z,RN,E,F,I,J,L,N];exact au jG (by(try simp only[RN,E,F,I,J,L,N]);rfl)
 rw[al0 c g x1];simp only[slD,RN,E,F,I,J,L,N];refine au j ?_
 rcases amD c f with⟨y,s,D⟩|⟨⟨u',v',s⟩, -⟩
 case inr=>
  rw[alX c f s];simp only[slD,z0,U,A,z,RN,E,F,I,J,L,N];exact au jG (by(try simp only[RN,E,F,I,J,L,N]);rfl)
 rw[al0 c f s];have T:=W.len;have ly:=D.len;have nn:((p.ws.length:Int) !=(p.ws.length:Int))=false:=bne_self_eq_false _;have Z:(0:Int)<=(a:Int):=by omega
 have G:(0:Int)<=(b:Int):=by omega
 simp only[slD,z0,Q,T,ly,nn,Z,G,g,f,getD_map,alM,O,RN,E,F,I,J,L,N]
 by_cases l:p.Re a b
 ·have e1:((x.getD b default).num !=0)=true:=bne_iff_ne.2 (W.ne b l)
  have e2:((y.getD a default).num !=0)=true:=bne_iff_ne.2 (D.ne a (amq g l));simp only[e1,e2,Q,T,ly,nn,Z,G,g,f,getD_map,alM,O,RN,E,F,I,J,L,N];exact au jG (by(try simp only[RN,E,F,I,J,L,N]);rfl)
 have e1:((x.getD b default).num !=0)=false:=by rw[W.zer b f l];rfl
 have e2:((y.getD a default).num !=0)=false:=by rw[D.zer a g (fun h=>l (amq f h))];rfl
 simp only[e1,e2,Q,T,ly,nn,Z,G,g,f,getD_map,alM,O,RN,E,F,I,J,L,N];refine au K ?_;rw[m]at k;obtain⟨r,r1,r2,r3,r4,r5⟩:=am1 c g f k W D l;rw[<-m]at k r1;have ac:a<q.ws.length:=by rw[m];simp only[Piece.with,Y,List.length_singleton];omega
 rw[al0 k ac r1];simp only[slD,Z,G,g,f,getD_map,jX,Q,O,RN,E,F,I,J,L,N];have t1:=Piece.NP c _ (getD_mem g);have t2:=Piece.NP c _ (getD_mem f);have t3:4<=aO/\aO<=50:=by
  have hl:p.ws.length<q.ws.length:=by rw[m];simp[Piece.with]
  have:=Piece.NP k _ (getD_mem hl);have e:q.ws.getD p.ws.length default=⟨p.cs.length,0,(p.wh a).layer,aO⟩:=by rw[m];simp[Piece.with]
  rw[e]at this;simp only at this;omega
 simp only[Piece.wh,O]at r3 r4;obtain⟨u,hu⟩:=S (show 0<=(p.ws.getD a default).aO by omega);obtain⟨v,hv⟩:=S (show 0<=(p.ws.getD b default).aO by omega);obtain⟨t,rfl⟩:=S (show 0<=aO by omega);rw[hu]at t1 r3 r4;rw[hv]at t2 r3;have T1:=afn [⟨u,t⟩,⟨t,v⟩] (by simp);have T2:=afn [⟨u,v⟩] (by simp);have T3:=afn [⟨u,t⟩] (by simp);rw[amo (by simp) (by simp;omega),ant (by omega) (by omega)]at T1;rw[amo (by simp) (by simp;omega),anr]at T2 T3;rw[amc]at r3;rw[amU]at r4;have bd:=ano u t;have w1:IntKind.i64.wrap (0 - (Yr u t).n)= -(Yr u t).n:=by rw[aF (by omega)];omega
 have m1:(((2:Nat):Int).tmod 2==0)=true:=rfl;have m2:(((1:Nat):Int).tmod 2==0)=false:=rfl;have w2:IntKind.i64.wrap ((p.ws.length:Int)+1)=((p.ws.length+1:Nat):Int):=by rw[aF (by omega)];omega
 have n1:(((p.ws.length+1:Nat):Int) !=((p.ws.length+1:Nat):Int))=false:=bne_self_eq_false _;have k1:((Yr u v).n==(Yr u v).n)=true:=beq_self_eq_true _;have k2:((Yr u v).d==(Yr u v).d)=true:=beq_self_eq_true _;have k3:(-(Yr u t).n== -(Yr u t).n)=true:=beq_self_eq_true _;have k4:((Yr u t).d==(Yr u t).d)=true:=beq_self_eq_true _;have tt:(true !=true)=false:=rfl;simp only[hu,hv];refine GZ rfl rfl rfl ?_;(try simp only[RN,E,F,I,J,L,N]);refine au T1 ?_;simp only[dG,DV.strip,RN,E,F,I,J,L,N];refine au T2 ?_;simp only[dG,DV.strip,RN,E,F,I,J,L,N];refine au T3 ?_;simp only[dG,z0,U,Q,r2,w2,n1,m1,m2,xC,k1,k2,tt,RN,E,F,I,J,L,N];have ab:b<p.ws.length+1:=by omega
 have ae:p.ws.length<p.ws.length+1:=by omega
 simp only[dG,z0,U,Q,r2,r3,r4,G,ab,ae,w1,w2,n1,m1,m2,xC,k1,k2,k3,k4,tt,getD_map,alM,O,RN,E,F,I,J,L,N];refine⟨by omega,?_⟩;generalize (⟨_,_,_⟩:Mem)=M;refine aG p.ws.length (fun i (_:Unit)=>⟨[(12, .d (.slice false (x.map Tn.dv))),(16, .d (.int .i64 p.ws.length)),(17, .d (.slice false (r.map Tn.dv))),(30, .d (.int .i64 i))],M⟩)
  (fun _ _=>True) 0 () (Nat.zero_le _) rfl trivial (fun i _ B _=> ?_) (fun _ _=> ?_)
 ·obtain⟨g2,g3,g6⟩:=rng B (by omega)
  have g4:i<p.ws.length+1:=by omega
  simp only[g2,g3,B,g4,T,r2,getD_map,alM,O,Q,RN,E,F,I,J,L,N]
  by_cases h0:(x.getD i default).num=0
  ·have e0:((x.getD i default).num !=0)=false:=bne_eq_false_iff_eq.2 h0
   simp only[e0,g6,RN,E,F,I,J,L,N];exact kZ () B rfl trivial
  ·have e0:((x.getD i default).num !=0)=true:=bne_iff_ne.2 h0
   have e3:=r5 i B h0;have e4:((x.getD i default).num==(x.getD i default).num)=true:=beq_self_eq_true _;have e5:((x.getD i default).den==(x.getD i default).den)=true:=beq_self_eq_true _;simp only[e0,e3,e4,e5,xC,tt,g2,g3,B,g4,g6,T,r2,getD_map,alM,O,Q,RN,E,F,I,J,L,N];exact kZ () B rfl trivial
 ·simp only[Int.lt_irrefl,RN,E,F,I,J,L,N]
  exact au jG (by(try simp only[RN,E,F,I,J,L,N]);rfl)
end Go.Tel
namespace Go.Am
variable{k:IntKind}{ds:List DV}
def Y6 (h:Has (.int k) ds):∃n,ds=[.int k n]:=by cases h;exact⟨_,rfl⟩
def LU (h:Has (.struct []) ds):ds=[]:=by cases h;rfl
variable{ts:List Ty}
def UD {t:Ty}(h:Has (.struct (t::ts)) ds):∃a b,ds=a++b/\Has t a/\Has (.struct ts) b:=by cases h with|cons h c=>exact⟨_,_,rfl,h,c⟩
def zU (h:Has (.struct (.int k::ts)) ds):∃n b,ds= .int k n::b/\Has (.struct ts) b:=by
 obtain⟨a,b,rfl,h1,h2⟩:=UD h;obtain⟨n,rfl⟩:=Y6 h1;exact⟨n,b,rfl,h2⟩
def acj {α:Type}{e:Ty}{dv:α->DV}:∀{xs:List DV},(∀x∈xs,∃a,x=dv a)->∃l:List α,xs=l.map dv
 | [],_=>⟨[],rfl⟩
 |x::xs,h=>by
  obtain⟨a,rfl⟩:=h x List.mem_cons_self;obtain⟨l,rfl⟩:=acj (e:=e) fun y b=>h y (List.mem_cons_of_mem _ b)
  exact⟨a::l,rfl⟩
variable{e:Ty}
def aiB {α:Type}{dv:α->DV}(hd:∀x,Has e x.cells->Shp e x->∃a,x=dv a){ds:List DV}(h:Has (.slice e) ds):∃l:List α,ds=[.slice false (l.map dv)]:=by
 cases h with
 |slice h c=>
  rename_i xs
  obtain⟨l,rfl⟩:=acj (e:=e) fun x b=>hd x (h x b) (c x b)
  exact⟨l,rfl⟩
def adk {α:Type}{dv:α->DV}(hd:∀x,Has e x.cells->Shp e x->∃a,x=dv a){ts:List Ty}{ds:List DV}(h:Has (.struct (.slice e::ts)) ds):∃(l:List α) (b:List DV),ds= .slice false (l.map dv)::b/\Has (.struct ts) b:=by
 obtain⟨a,b,rfl,h1,h2⟩:=UD h;obtain⟨l,rfl⟩:=aiB hd h1;exact⟨l,b,rfl,h2⟩
def ahm {T:Ty}{Ts:List Ty}{xs:List DV}(h:AX (T::Ts) xs):∃x l,xs=x::l/\ZJ T x/\AX Ts l:=by
 cases xs with
 |nil=>exact h.elim
 |cons x l=>exact⟨x,l,rfl,h.1,h.2⟩
def aix {xs:List DV}(h:AX [] xs):xs=[]:=by
 cases xs with
 |nil=>rfl
 |cons x l=>exact h.elim
end Go.Am
namespace Go.Tel
open Go.Am
abbrev NY:Ty:= .struct [.int .i64, .int .i64]
abbrev ajs:Ty:= .struct [.int .i64, .int .i64, .int .i64, .int .i64]
abbrev Fa:Ty:= .struct [.int .i64, .int .i64, .int .i64, .int .i64, .int .i64, .slice NY, .slice ajs, .slice NY]
def aiA (x:DV)(h:Has NY x.cells)(hs:Shp NY x):∃p:Pt,x=p.dv:=by
 obtain⟨cs,rfl⟩:=hs.1 rfl;obtain⟨a,_,c,h1⟩:=zU h;obtain⟨b,_,rfl,h2⟩:=zU h1;obtain rfl:=LU h2;exact⟨⟨a,b⟩,by rw[Pt.dv];exact congrArg DV.agg c⟩
def aiz (x:DV)(h:Has NY x.cells)(hs:Shp NY x):∃p:Ms,x=p.dv:=by
 obtain⟨cs,rfl⟩:=hs.1 rfl;obtain⟨a,_,c,h1⟩:=zU h;obtain⟨b,_,rfl,h2⟩:=zU h1;obtain rfl:=LU h2;exact⟨⟨a,b⟩,by rw[Ms.dv];exact congrArg DV.agg c⟩
def aiC (x:DV)(h:Has ajs x.cells)(hs:Shp ajs x):∃p:Wh,x=p.dv:=by
 obtain⟨cs,rfl⟩:=hs.1 rfl;obtain⟨a,_,e,h1⟩:=zU h;obtain⟨b,_,rfl,h2⟩:=zU h1;obtain⟨c,_,rfl,f⟩:=zU h2;obtain⟨d,_,rfl,g⟩:=zU f;obtain rfl:=LU g;exact⟨⟨a,b,c,d⟩,by rw[Wh.dv];exact congrArg DV.agg e⟩
variable{x:DV}
def ajP (h:ZJ (.int .i64) x):∃n:Int,x= .int .i64 n:=by
 obtain⟨n,h1⟩:=Y6 h.1;rw[h.2.2 rfl]at h1;exact⟨n,(List.cons.inj h1).1⟩
def aiy (h:ZJ Fa x):∃p:Piece,x=p.dv:=by
 obtain⟨h,r⟩:=h;obtain⟨cs,rfl⟩:=r.1 rfl;obtain⟨a,_,j,h1⟩:=zU h;obtain⟨b,_,rfl,h2⟩:=zU h1;obtain⟨c,_,rfl,k⟩:=zU h2;obtain⟨d,_,rfl,l⟩:=zU k;obtain⟨e,_,rfl,m⟩:=zU l;obtain⟨f,_,rfl,n⟩:=adk aiA m;obtain⟨g,_,rfl,o⟩:=adk aiC n;obtain⟨i,_,rfl,q⟩:=adk aiz o;obtain rfl:=LU q;exact⟨⟨a,b,c,d,e,f,g,i⟩,by rw[Piece.dv];exact congrArg DV.agg j⟩
end Go.Tel
namespace Go.Am
section
variable {H:Type}{enc:TypeId×Value->H}{P:Program}{w:World}{base:Nat}{spare:Nat->Bool}{held:Bool}
def LC:∀{ts:List TypeId} {vs:List Value} {ds:List (DataW H)} {ps:List MemPlace},DataW.TrodAll enc P w base spare held ts vs ds ps->ds.length=ts.length
 | [],[],[],_,_=>rfl
 |t::ts,v::vs,d::ds,ps,h=>by
  obtain⟨p,q,_,h2,_⟩:=h;rw[X,X,LC h2]
 | [],_::_,_,_,h=>by cases h
 | [],[],_::_,_,h=>by cases h
 | _::_,[],_,_,h=>by cases h
 | _::_,_::_,[],_,h=>by cases h
end
def akp {α:Type}{l:List α}(h:l.length=1):∃a,l=[a]:=List.length_eq_one_iff.1 h
def ahw {α:Type}{l:List α}{n:Nat}(h:l.length=n+1):∃a r,l=a::r/\r.length=n:=by
 cases l with
 |nil=>cases h
 |cons a r=>exact⟨a,r,rfl,by simpa using h⟩
def akq {α:Type}{l:List α}(h:l.length=2):∃a b,l=[a,b]:=by
 obtain⟨a,r,rfl,h1⟩:=ahw h;obtain⟨b,rfl⟩:=akp h1;exact⟨a,b,rfl⟩
def akr {α:Type}{l:List α}(h:l.length=3):∃a b c,l=[a,b,c]:=by
 obtain⟨a,r,rfl,h1⟩:=ahw h;obtain⟨b,c,rfl⟩:=akq h1;exact⟨a,b,c,rfl⟩
def anv {α:Type}{l:List α}(h:l.length=4):∃a b c d,l=[a,b,c,d]:=by
 obtain⟨a,r,rfl,h1⟩:=ahw h;obtain⟨b,c,d,rfl⟩:=akr h1;exact⟨a,b,c,d,rfl⟩
def anw {α:Type}{l:List α}(h:l.length=5):∃a b c d e,l=[a,b,c,d,e]:=by
 obtain⟨a,r,rfl,h1⟩:=ahw h;obtain⟨b,c,d,e,rfl⟩:=anv h1;exact⟨a,b,c,d,e,rfl⟩
end Go.Am
namespace Go.Tel
open Go.Am
def anA {x:DV}(h:ZJ NY x):∃p:Pt,x=p.dv:=aiA x h.1 h.2
end Go.Tel
namespace Go.Am
variable{P:Program}{l:List (String×DataW Unit)}
def adP {w:World}(a:(l.filter fun x=>x.2.handleName?.isSome)=[])(h:laidMetH P l w):laidMet P l w:=by
 unfold laidMetH at h;rw[a]at h;exact h
def ZC {P:Program}{w:World}{n:String}{d:DataW Unit}:∀{l:List (String×DataW Unit)} {ps:List MemPlace},DataW.LaidVars P w l ps->(n,d)∈l->
  ∃g t cs a p,P.globalNamed n=some g/\(P.globals[g]?).map (·.type)=some t/\w.var? P n=some cs/\DataW.trod (fun _=>()) P w 0 (fun _=>true) false a t cs.toList=some (d,p)
 | [],_,_,h=>by cases h
 |(j,i)::l,ps,h,b=>by
  obtain⟨g,t,cs,a,p,q,h1,h2,c,e,f,_⟩:=h;cases b with
  |head=>exact⟨g,t,cs,a,p,h1,h2,c,e⟩
  |tail _ b=>exact ZC f b
def ae2 {W:World}{name:String}{k:IntKind}{zs:List Int}{g:Nat}{t e:TypeId}{n:Nat}
  (o:P.globalNamed name=some g)(i:(P.globals[g]?).map (·.type)=some t)(r:P.underlying t=some (.array n e))(m:P.underlying e=some (.int k))(b:P.cellsOf e=1)(c:P.cellsOf t=n)
  (h:laidMet P l W)(q:(name,Lib.tabData k zs)∈l):Lib.TabIs P W name k zs:=by
 obtain⟨v,s,_⟩:=h;obtain⟨u,w,cs,j,p,d,f,a,hd⟩:=ZC s q;obtain rfl:=Option.some.inj (o.symm.trans d);obtain rfl:=Option.some.inj (i.symm.trans f);unfold Lib.TabIs;rw[a,<-Lib.cells_of_tab r m b c hd]
end Go.Am
namespace Go.Tel
open Go.Am
def ai5 {W:World}(h:C.G W):∀b,C.low b->b<W.heap.size/\∀c T fz,W.heap[b]?=some (.cells c T fz)->∀(i:Nat) (n:Int),c[i]?≠some (.int .i64 n):=by
 intro b j;have e:Go.Proofs.Tryz.prog.globalNamed "internal/strconv.uint64pow10" =some b:=j;have a:W.var? Go.Proofs.Tryz.prog "internal/strconv.uint64pow10" =some (Go.Lib.pow10Tab.map fun z=>Value.int .u64 z).toArray:=h;unfold World.var? at a;rw[e]at a;simp only[Option.bind_some]at a;cases f:W.heap[b]? with
 |none=>rw[f]at a;cases a
 |some o=>
  rw[f]at a;refine⟨bZ f,fun c T fz k i n d=> ?_⟩;cases k;simp only[Option.some.injEq]at a;subst a;rw[List.getElem?_toArray,List.getElem?_map]at d;cases g:Go.Lib.pow10Tab[i]? with
  |none=>rw[g]at d;cases d
  |some z=>rw[g]at d;cases d
end Go.Tel
namespace Go.Proofs.YtkbhljmmnbgloaaGreatDoor
open Go.ChangeShapes Go.WideShapes Go.RowKit Go.Am
def fF {a b:Bool}(c:a=true)(hb:b=true):(a&&b)=true:=by rw[c,hb];rfl
def own:ownKnob Tryz.prog.godebug=none:=by kernel_rfl
def laidOut:laidOutB Tryz.prog=true:=by kernel_rfl
def FQ:List (String×DataW Unit):=Rows.topDiscsRow.laid
def laid_met (os:Os)(args:Array Value):laidMet Tryz.prog FQ ((World.laidAll Tryz.prog os FQ).forCall (fun _ _=>0) ⟨#[],args,[]⟩).memory:=
 laidMet_laidAll args (by kernel_rfl) (by kernel_rfl)
def aa7 (os:Os)(args:Array Value):laidMetH Tryz.prog FQ ((World.laidAll Tryz.prog os FQ).forCall (fun _ _=>0) ⟨#[],args,[]⟩).memory:=
 laidMetH_of_parts (laid_met os args) (by kernel_rfl)
def ae1:(Rows.laid_internal_strconv_uint64pow10:DataW Unit)=Lib.tabData .u64 Lib.pow10Tab:=rfl
def ag7:("internal/strconv.uint64pow10",(Rows.laid_internal_strconv_uint64pow10:DataW Unit))∈FQ:=List.Mem.tail _ (List.Mem.tail _ (List.Mem.head _))
def ajm {W:World}(h:laidMetH Tryz.prog FQ W):Go.Tel.C.G W:=
 ae2 (P:=Tryz.prog) (g:=1) (t:=450) (e:=279) (n:=20) (by kernel_rfl) (by kernel_rfl) (by kernel_rfl) (by kernel_rfl) (by kernel_rfl) (by kernel_rfl) (adP (by kernel_rfl) h) (ae1▸ag7)
end Go.Proofs.YtkbhljmmnbgloaaGreatDoor
