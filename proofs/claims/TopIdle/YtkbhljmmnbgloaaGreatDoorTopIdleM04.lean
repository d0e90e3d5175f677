/-
  Part 4 of a law of desks.
  Conditions: none.
-/
import Derived.Test.YtkbhljmmnbgloaaGreatDoorTopIdleM03
import Derived.ProofKit
import Derived.Deep.Slices
import Derived.IntWalk
import Derived.RecoverIn
import Derived.Shelf.Sort.Plain
import Derived.Lib.LaidTab
import Derived.Lib.ItoaNum
import Derived.Test.YtkbhljmmnbgloaaGreatDoorChecked
set_option linter.all false
set_option maxRecDepth 10000
set_option maxHeartbeats 1000000
open Nat renaming reduceBEq->J,reduceAdd->N,reduceSub->S,reduceEqDiff->U,reduceLT->V,reduceLeDiff->W,le_refl->am,lt_of_lt_of_le->aq,gcd->ax,div_le_self->bi,zero_le->bl,le_trans->bu,gcd_pos_of_pos_right->bz,gcd_comm->cp,sub_zero->cq,zero_mul->cr,mul_one->cv
open And renaming intro->Y
open Bool renaming and_eq_true->Z,or_eq_true_iff->br,false_and->cb
open List renaming length_map->ab,getElem?_eq_getElem->ae,getD_eq_getElem?_getD->ai,map_cons->ao,getElem?_eq_some_iff->av,map_nil->aw,drop_length->az,getElem?_take->aD,map_append->aE,mem_append->aL,nil_append->aM,getElem?_map->a7,all_eq_true->bc,getElem_mem->be,getElem?_append_left->bh,getElem?_drop->bj,length_append->bk,mem_map->bo,all_cons->bp,append_nil->bq,getElem?_cons_zero->bA,getElem?_eq_none->bL,getElem?_toArray->bN,mem_of_getElem?->bR,mem_singleton->bS,ext_getElem?->b4,flatMap_cons->b5,length_cons->b6,take_length->b7,length_nil->b8,drop_drop->cf,drop_zero->cg,nodup_nil->cj,any_cons->ck,take_add->cm
open Int renaming toNat_natCast->an,mul_le_mul->ap,lt_irrefl->aR,mul_nonneg->bO,le_trans->bX,ofNat_le->b3,ofNat_tdiv->ce,le_refl->ct
open Array renaming getElem?_toList->a6,getElem?_append_left->a8,getD_eq_getD_getElem?->bt,isEmpty_iff->bw,replicate->bB,getElem?_modify->bE
open Option renaming isNone_iff_eq_none->bv,map_some->b9
open Iff renaming rfl->cn
open Go.IntKind renaming wrap->cw
namespace Go.Am
section
variable {C:Ctx}{nb na:Nat}{Q:Ex->St->Prop}{env:List (Nat×PV)}{bs:List (Option (List PV))}{fz:List Nat}{ass:List (Option Arr)}{s:St}
def aed:pwp C nb na .skip Q s=Q .normal s:=px
def abw {l:Nat}:pwp C nb na (.label l) Q s=Q .normal s:=px
def agJ:pwp C nb na .ret Q s=Q .ret s:=px
def aec {i:Nat}:pwp C nb na (.exit i) Q s=Q (.exit i) s:=px
def abx {b:aA}:pwp C nb na (.scope b) Q s=pwp C nb na b Q s:=px
def aeI (C:Ctx)(nb na:Nat)(b:aA)(Q:Ex->St->Prop):Ex->St->Prop:=fun e a=>match e with| .normal=>pwp C nb na b Q a|e=>Q e a
def Gx (id:Nat)(Q:Ex->St->Prop):Ex->St->Prop:=fun e b=>match e with| .exit a=>if a=id then Q .normal b else Q (.exit a) b|e=>Q e b
def KL (nb na:Nat)(I:Nat->St->Prop)(n:Nat)(Q:Ex->St->Prop):Ex->St->Prop:=fun e c=>match e with| .normal=>∃b a,b<n/\Weak nb na c a/\I b a|e=>Q e c
def agK {a b:aA}:pwp C nb na (.seq a b) Q s=pwp C nb na a (aeI C nb na b Q) s:=px
def VT {b:aA}:aeI C nb na b Q .normal s=pwp C nb na b Q s:=px
def aeJ {b:aA}:aeI C nb na b Q .ret s=Q .ret s:=px
def abI {b:aA}{i:Nat}:aeI C nb na b Q (.exit i) s=Q (.exit i) s:=px
def Yx {b:aA}{d:DV}:aeI C nb na b Q (.panic d) s=Q (.panic d) s:=px
def abv {i:Nat}{b:aA}:pwp C nb na (.block i b) Q s=pwp C nb na b (Gx i Q) s:=px
def OJ {i:Nat}:Gx i Q .normal s=Q .normal s:=px
def WL {i:Nat}:Gx i Q .ret s=Q .ret s:=px
def QU {i:Nat}{d:DV}:Gx i Q (.panic d) s=Q (.panic d) s:=px
def J7 {i j:Nat}:Gx i Q (.exit j) s=if j=i then Q .normal s else Q (.exit j) s:=px
def WJ {i j:Nat}(h:(j==i)=true):Gx i Q (.exit j) s=Q .normal s:=by rw[J7,if_pos (by simpa using h)]
def TR {i j:Nat}(h:(j==i)=false):Gx i Q (.exit j) s=Q (.exit j) s:=by rw[J7,if_neg (by simpa using h)]
def RV {I:Nat->St->Prop}{n:Nat}:KL nb na I n Q .normal s=∃b a,b<n/\Weak nb na s a/\I b a:=px
def abj {I:Nat->St->Prop}{n:Nat}:KL nb na I n Q .ret s=Q .ret s:=px
def X9 {I:Nat->St->Prop}{n i:Nat}:KL nb na I n Q (.exit i) s=Q (.exit i) s:=px
def U8 {I:Nat->St->Prop}{n:Nat}{d:DV}:KL nb na I n Q (.panic d) s=Q (.panic d) s:=px
variable{b:aA}
def AB (I:Nat->St->Prop)(n:Nat)(a:I n s)(c:∀n s,I n s->pwp C nb na b (KL nb na I n Q) s):pwp C nb na (.loop b) Q s:=⟨I,n,a,c⟩
def I7 {x:Bool}{c:Opd}{a:aA}(h:s.val c= .d (.bool x)):pwp C nb na (.cond c a b) Q s=((x=true->pwp C nb na a Q s)/\(x=false->pwp C nb na b Q s)):=by
 simp only[pwp,h]
def Yn {t:Nat}{a b:aA}{m:Mem}(h:look env t= .d (.bool true)):pwp C nb na (.cond (.t t) a b) Q ⟨env,m⟩=pwp C nb na a Q ⟨env,m⟩:=by
 rw[I7 (s:=⟨env,m⟩) (c:= .t t) (x:=true) h];simp
def Ym {t:Nat}{a b:aA}{m:Mem}(h:look env t= .d (.bool false)):pwp C nb na (.cond (.t t) a b) Q ⟨env,m⟩=pwp C nb na b Q ⟨env,m⟩:=by
 rw[I7 (s:=⟨env,m⟩) (c:= .t t) (x:=false) h];simp
def VG {a b:aA}:pwp C nb na (.cond (.c (.bool true)) a b) Q s=pwp C nb na a Q s:=by
 rw[I7 (x:=true) rfl];simp
def VF {a b:aA}:pwp C nb na (.cond (.c (.bool false)) a b) Q s=pwp C nb na b Q s:=by
 rw[I7 (x:=false) rfl];simp
def NZ {d:Bool}{ops:List PO}{Yf:Nat}{keep a:List Nat}{m:Mem}:pwp C nb na (.region d ops Yf keep a) Q ⟨env,m⟩=
  uq C m.boxes.length ops (fun b=>qW a (Q .normal) ⟨gW b.env keep,b.mem⟩) (fun d M=>Q (.panic d) ⟨[],M⟩) ⟨env,⟨m.boxes++List.replicate Yf none,m.fz,m.aB⟩⟩:=px
def VH {d:Bool}{ops:List PO}{keep:List Nat}{m:Mem}:pwp C nb na (.region d ops 0 keep []) Q ⟨env,m⟩=
  uq C m.boxes.length ops (fun a=>Q .normal ⟨gW a.env keep,a.mem⟩) (fun d M=>Q (.panic d) ⟨[],M⟩) ⟨env,m⟩:=by
 rw[NZ];simp only[List.replicate_zero,bq,qW]
def aaV {K:St->Prop}:qW [] K s=K s:=px
def U1:gW env []=[]:=rfl
def Rz {k:Nat}{ks:List Nat}:gW env (k::ks)=(k,look env k)::gW env ks:=by simp only[gW,ao]
end
section
variable {C:Ctx}{base:Nat}{K:St->Prop}{KP:DV->Mem->Prop}{s:St}{env:List (Nat×PV)}{m:Mem}
def Yv:uq C base [] K KP s=K s:=px
def VN {o:PO}{os:List PO}:uq C base (o::os) K KP s=dO C base o (fun a=>uq C base os K KP a) KP s:=px
def agX {dst:Option Nat}{op:POp}{args:List Opd}:dO C base ⟨dst,op,args,none,0⟩ K KP ⟨env,m⟩=ak C base op (args.map (St.val ⟨env,m⟩)) m (fun v M=>K ⟨put env dst v,M⟩) KP:=propext ⟨fun h=>h.2,fun h=>⟨trivial,h⟩⟩
def aeD {dst:Option Nat}{op:POp}{args:List Opd}{fl:Nat}:dO C base ⟨dst,op,args,none,fl⟩ K KP ⟨env,m⟩=(vK base fl (args.map (St.val ⟨env,m⟩))/\ak C base op (args.map (St.val ⟨env,m⟩)) m (fun v M=>K ⟨put env dst v,M⟩) KP):=px
def aeG {dst:Option Nat}{op:POp}{args:List Opd}{fl t:Nat}(h:look env t= .d (.bool true)):dO C base ⟨dst,op,args,some (t,true),fl⟩ K KP ⟨env,m⟩=
  (vK base fl (args.map (St.val ⟨env,m⟩))/\ak C base op (args.map (St.val ⟨env,m⟩)) m (fun v M=>K ⟨put env dst v,M⟩) KP):=by
 simp only[dO,h];simp
def aeC {dst:Option Nat}{op:POp}{args:List Opd}{fl t:Nat}(h:look env t= .d (.bool false)):dO C base ⟨dst,op,args,some (t,false),fl⟩ K KP ⟨env,m⟩=
  (vK base fl (args.map (St.val ⟨env,m⟩))/\ak C base op (args.map (St.val ⟨env,m⟩)) m (fun v M=>K ⟨put env dst v,M⟩) KP):=by
 simp only[dO,h];simp
def aeF {dst:Option Nat}{op:POp}{args:List Opd}{fl t:Nat}(h:look env t= .d (.bool false)):dO C base ⟨dst,op,args,some (t,true),fl⟩ K KP ⟨env,m⟩=K ⟨put env dst (.d (.tup [])),m⟩:=by
 simp only[dO,h];simp
def aeE {dst:Option Nat}{op:POp}{args:List Opd}{fl t:Nat}(h:look env t= .d (.bool true)):dO C base ⟨dst,op,args,some (t,false),fl⟩ K KP ⟨env,m⟩=K ⟨put env dst (.d (.tup [])),m⟩:=by
 simp only[dO,h];simp
def agY {dst:Option Nat}{op:POp}{args:List Opd}{fl t:Nat}{w:Bool}(h:look env t= .d (.tup [])):dO C base ⟨dst,op,args,some (t,w),fl⟩ K KP ⟨env,m⟩=K ⟨put env dst (.d (.tup [])),m⟩:=by
 simp only[dO,h]
def aii {args:List PV}:vK base 0 args=True:=rfl
def aij {args:List PV}:vK base 1 args=(args.all PV.isD=true):=px
def afR {b o:Nat}{l:List PV}:vK base 2 (.ptr b o::l)=(b<base):=px
def afQ {x:DV}{l:List PV}:vK base 2 (.d x::l)=True:=px
def aik {k v i o:Nat}{l:List PV}:vK base 3 (.ji k v i o::l)=True:=px
def ail {i b o:Nat}{l:List PV}:vK base (i+4) (.ptr b o::l)=(b=base+i):=px
def afS {f b o:Nat}{l:List PV}(h:4<=f):vK base f (.ptr b o::l)=(b=base+(f - 4)):=by
 obtain⟨i,rfl⟩:∃i,f=i+4:=⟨f - 4,by omega⟩
 rw[ail];simp
def akn {x:DV}:PV.isD (.d x)=true:=rfl
def aeb {d:Nat}{v:PV}:put env (some d) v=(d,v)::env:=by simp only[put]
def aea {v:PV}:put env none v=env:=by simp only[put]
def adO {d:Nat}{v:PV}:look ((d,v)::env) d=v:=by simp[look]
def abh {d t:Nat}{v:PV}(h:(d==t)=false):look ((d,v)::env) t=look env t:=by simp[look,h]
def akJ {n:Nat}:St.val ⟨env,m⟩ (.t n)=look env n:=by simp only[St.val]
def akI {x:DV}:St.val ⟨env,m⟩ (.c x)= .d x:=by simp only[St.val]
end
section
variable {C:Ctx}{base:Nat}{M:Mem}{K:PV->Mem->Prop}{KP:DV->Mem->Prop}
def aia {x:PV}:ak C base .mov [x] M K KP=K x M:=px
variable{sz:Nat}
def aaI {xs:List DV}:ak C base (.QO sz) [.d (.slice true xs)] M K KP=(0<sz/\(∀e∈xs,e.fits sz=true)/\K (.tsl M.aB.length 0 0) {M with aB:=M.aB++ [some ⟨sz,xs,0,0⟩]}):=propext ⟨fun h=>h.2,fun h=>⟨rfl,h⟩⟩
def Un {sz:Nat}:ak C base (.QO sz) [.d (.slice true [])] M K KP=(0<sz/\K (.tsl M.aB.length 0 0) {M with aB:=M.aB++ [some ⟨sz,[],0,0⟩]}):=by
 rw[aaI];simp
def aaJ {sz k ver skip:Nat}:ak C base (.QO sz) [.tsl k ver skip] M K KP=K (.tsl k ver skip) M:=px
def afN {t:Bool}{x y:PV}:ak C base .pick [.d (.bool t),x,y] M K KP=K (bif t then x else y) M:=px
def acY {i:Nat}{zs:List DV}:ak C base (.alloc i zs) [] M K KP=(M.boxes[base+i]?=some none/\K (.ptr (base+i) 0) {M with boxes:=M.boxes.set (base+i) (some (zs.map .d))}):=px
def ah7 {i:Nat}{x:PV}:ak C base (.box i) [x] M K KP=(x.mP=false/\M.boxes[base+i]?=some none/\K (.ptr (base+i) 0) {M with boxes:=M.boxes.set (base+i) (some x.cells)}):=px
variable{args:List PV}
def ac0 {zs:List DV}{ps:List (Nat×Nat)}:ak C base (.build zs ps) args M K KP=(match jm (zs.map .d) ps args with|some cs=>K (zW cs) M|none=>False):=px
def afL {zs xs ds:List DV}{a:List Nat}(h1:cZ M args=some ds)(h2:qy sz zs a (ds.map DV.strip)=some xs):ak C base (.dA sz zs a) args M K KP=K (.d (.slice true xs)) (M.frz args):=by
 simp only[ak,h1,h2]
def afK {agg:Bool}{n:Nat}{x:PV}:ak C base (.load agg n) [x] M K KP=bP agg n x M fun v=>K v M:=px
def ac2 {agg:Bool}{n:Nat}{x:PV}:ak C base (.FU agg n) [x] M K KP=ni agg n x M fun v=>K v M:=px
def ac5 {n:Nat}{x v:PV}:ak C base (.store n) [x,v] M K KP=iV n x v M fun M'=>K .dead M':=px
def Xv {b o:Nat}:ak C base .bf [.ptr b o] M K KP=K (.ptr b o) M:=px
def Xu {cs:List DV}:ak C base .bf [.d (.aV cs)] M K KP=K (.d (.aV cs)) M:=px
def ah6 {op:BinOp}{x y:PV}:ak C base (.bin op) [x,y] M K KP=J6 op x y fun v=>K (.d v) M:=px
def Ib {neq t:Bool}{ks:List Nat}{a b:List DV}(h:bG ks a b=some t):ak C base (.A8 neq ks) [.d (.agg a), .d (.agg b)] M K KP=K (.d (.bool (t !=neq))) M:=by simp only[ak,h]
def afA {neq a b:Bool}:ak C base (.TP neq) [.d (.bool a), .d (.bool b)] M K KP=K (.d (.bool ((a==b) !=neq))) M:=px
def ac1 {neq ex:Bool}{xs:List DV}:ak C base (.isNil neq) [.d (.slice ex xs), .d (.slice true [])] M K KP=((xs≠[]->K (.d (.bool neq)) M)/\(xs=[]->∀b,K (.d (.bool b)) M)):=px
def ajE {op:UnOp}{x:PV}:ak C base (.un op) [x] M K KP=Wi op x fun v=>K (.d v) M:=px
def afC {k k':IntKind}{n:Int}:ak C base (.conv k) [.d (.int k' n)] M K KP=K (.d (.int k (k.wrap n))) M:=px
def anl {t:TypeId}{x:PV}{d:DV}(h:datum M x=some d):ak C base (.mkI t) [x] M K KP=K (.d (.iface t d)) (M.frz [x]):=by simp only[ak,h]
def ac3 {fn:Fn}{nf:Nat}{args:List PV}:ak C base (.mkF fn nf) args M K KP=(match gU args with|some ds=>K (.d (.func fn (ds.take nf) (ds.drop nf))) M|none=>K (.func fn (args.take nf) (args.drop nf)) M):=px
def ah8 {off:Nat}{x:PV}:ak C base (.fld off) [x] M K KP=kW off x M fun v=>K v M:=px
def afE {agg:Bool}{off n:Nat}{x:PV}:ak C base (.OT agg off n) [x] M K KP=(x.isAgg=true/\off+n<=x.cells.length/\K (ld agg n off x.cells) M):=px
def afF {sz:Nat}{x i:PV}:ak C base (.bU sz) [x,i] M K KP=rW sz x i M fun v=>K v M:=px
def afG {s:ByteArray}{k:IntKind}{n:Int}:ak C base .UJ [.d (.str s), .d (.int k n)] M K KP=(0<=n/\n.toNat<s.size/\K (.d (.int .u8 (s.data.getD n.toNat 0).toNat)) M):=px
def afH {agg:Bool}{sz len:Nat}{x:PV}{k:IntKind}{n:Int}:ak C base (.Nr agg sz len) [x, .d (.int k n)] M K KP=(x.isAgg=true/\0<=n/\n<len/\n.toNat*sz+sz<=x.cells.length/\K (ld agg sz (n.toNat*sz) x.cells) M):=px
def afB {f:FuncId}{args:List PV}:ak C base (.call f) args M K KP=SC C f args M K KP:=px
def aaN {f:FuncId}:ak C base (.iG f) args M K KP=Jb C f args M K:=px
def ah5 {sz:Nat}{st1:Bool}{s x:PV}:ak C base (.app sz st1) [s,x] M K KP=kH sz st1 s x M K:=px
def ah9 {x:PV}:ak C base .len [x] M K KP=qg x M fun n=>K (.d (.int .i64 n)) M:=px
def afJ {s:ByteArray}:ak C base .Dj [.d (.str s)] M K KP=K (.d (.int .i64 s.size)) M:=px
def afI {n:Nat}{args:List PV}:ak C base (.U5 n) args M K KP=K (.d (.int .i64 n)) M:=px
def aaL {mx:Bool}{k k':IntKind}{a b:Int}:ak C base (.uh mx) [.d (.int k a), .d (.int k' b)] M K KP=K (.d (.int k (bif mx then(if b>a then b else a)else(if b<a then b else a)))) M:=px
def Us {neq:Bool}{b o:Nat}:ak C base (.vM neq) [.ptr b o, .d .nilPtr] M K KP=K (.d (.bool neq)) M:=px
def Uo {neq:Bool}{cs:List DV}:ak C base (.vM neq) [.d (.aV cs), .d .nilPtr] M K KP=K (.d (.bool neq)) M:=px
def Ur {neq:Bool}:ak C base (.vM neq) [.d .nilPtr, .d .nilPtr] M K KP=K (.d (.bool !neq)) M:=px
def Xq {sz len b o:Nat}{k:IntKind}{n:Int}:ak C base (.FP sz len) [.ptr b o, .d (.int k n)] M K KP=(0<=n/\n<len/\K (.ptr b (o+n.toNat*sz)) M):=px
def Xp {sz len:Nat}{cs:List DV}{k:IntKind}{n:Int}:ak C base (.FP sz len) [.d (.aV cs), .d (.int k n)] M K KP=(0<=n/\n<len/\n.toNat*sz<=cs.length/\K (.d (.aV (cs.drop (n.toNat*sz)))) M):=px
def Rl {agg:Bool}{sz len:Nat}{cs:List DV}:ak C base (.O7 agg sz len) [.d (.aV cs)] M K KP=(cs.length=len*sz/\(agg=false->sz=1/\∀c∈cs,c.one=true)/\K (.d (.slice true (tK agg sz len cs))) M):=px
def afq {op:BinOp}{k:IntKind}{a b:Int}{K:DV->Prop}:J6 op (.d (.int k a)) (.d (.int k b)) K=lM op k a b K:=propext ⟨fun h=>h.2,fun h=>⟨rfl,h⟩⟩
def af8 {k:IntKind}{a b:Int}{K:DV->Prop}:lM .add k a b K=K (.int k (k.wrap (a+b))):=px
def agk {k:IntKind}{a b:Int}{K:DV->Prop}:lM .sub k a b K=K (.int k (k.wrap (a - b))):=px
def agf {k:IntKind}{a b:Int}{K:DV->Prop}:lM .mul k a b K=K (.int k (k.wrap (a*b))):=px
def agi {k:IntKind}{a b:Int}{K:DV->Prop}:lM .quo k a b K=(b≠0/\K (.int k (k.wrap (a.tdiv b)))):=px
def agj {k:IntKind}{a b:Int}{K:DV->Prop}:lM .rem k a b K=(b≠0/\K (.int k (a.tmod b))):=px
def af9 {k:IntKind}{a b:Int}{K:DV->Prop}:lM .eql k a b K=K (.bool (a==b)):=px
def agh {k:IntKind}{a b:Int}{K:DV->Prop}:lM .neq k a b K=K (.bool (a !=b)):=px
def agd {k:IntKind}{a b:Int}{K:DV->Prop}:lM .lss k a b K=K (.bool (decide (a<b))):=px
def agc {k:IntKind}{a b:Int}{K:DV->Prop}:lM .leq k a b K=K (.bool (decide (a<=b))):=px
def agb {k:IntKind}{a b:Int}{K:DV->Prop}:lM .gtr k a b K=K (.bool (decide (a>b))):=px
def aga {k:IntKind}{a b:Int}{K:DV->Prop}:lM .geq k a b K=K (.bool (decide (a>=b))):=px
def ajp {k:IntKind}{a:Int}{K:DV->Prop}:Wi .neg (.d (.int k a)) K=K (.int k (k.wrap (0 - a))):=px
def ajq {a:Bool}{K:DV->Prop}:Wi .not (.d (.bool a)) K=K (.bool !a):=px
def ai4 {agg:Bool}{n:Nat}{cs:List DV}{K:PV->Prop}:bP agg n (.d (.aV cs)) M K=(n<=cs.length/\K (ldD agg n 0 cs)):=px
def ajH {off:Nat}{cs:List DV}{K:PV->Prop}:kW off (.d (.aV cs)) M K=(off<=cs.length/\K (.d (.aV (cs.drop off)))):=px
def ajI {off b o:Nat}{K:PV->Prop}:kW off (.ptr b o) M K=K (.ptr b (o+off)):=px
def ai0 {sz:Nat}{ex:Bool}{xs:List DV}{k:IntKind}{n:Int}{K:PV->Prop}:rW sz (.d (.slice ex xs)) (.d (.int k n)) M K=(0<=n/\n.toNat<xs.length/\(xs.getD n.toNat default).cells.length=sz/\K (.d (.aV (xs.getD n.toNat default).cells))):=px
def aks {ex:Bool}{xs:List DV}{K:Int->Prop}:qg (.d (.slice ex xs)) M K=K xs.length:=px
def adK {n off:Nat}{cs:List PV}:ld false n off cs=cs.getD off .dead:=rfl
def agp {n off:Nat}{cs:List PV}:ld true n off cs=zW ((cs.drop off).take n):=rfl
def aa9 {n off:Nat}{cs:List DV}:ldD false n off cs= .d (cs.getD off default):=rfl
def adJ {n off:Nat}{cs:List DV}:ldD true n off cs= .d (.agg ((cs.drop off).take n)):=rfl
def Xc {cs:List DV}:PV.cells (.d (.agg cs))=cs.map .d:=rfl
def Xd {k:IntKind}{n:Int}:PV.cells (.d (.int k n))=[.d (.int k n)]:=rfl
def Ua {b:Bool}:PV.cells (.d (.bool b))=[.d (.bool b)]:=rfl
def QZ {ex:Bool}{xs:List DV}:PV.cells (.d (.slice ex xs))=[.d (.slice ex xs)]:=rfl
def Xe {s:ByteArray}:PV.cells (.d (.str s))=[.d (.str s)]:=rfl
def GH {cs:List DV}:DV.cells (.agg cs)=cs:=rfl
def gZ {k:IntKind}{n:Int}:DV.cells (.int k n)=[.int k n]:=rfl
def adA {x:DV}:PV.mP (.d x)=false:=rfl
def adU:bg=⟨[],[],[]⟩:=rfl
def RQ (c:Option (Option (List PV)))(agg:Bool)(n off:Nat)(K:PV->Prop):Prop:=match c with|some (some cs)=>off+n<=cs.length/\K (ld agg n off cs)| _=>False
def lJ (c:Option (Option (List PV)))(b n off:Nat)(v:PV)(M:Mem)(K:Mem->Prop):Prop:=match c with
 |some (some cs)=>b∉M.fz/\v.cells.length=n/\v.cells.all PV.one=true/\off+n<=cs.length/\K ⟨M.boxes.set b (some (splice cs off v.cells)),M.fz,M.aB⟩
 | _=>False
def lenRow (c:Option (Option Arr))(ver skip:Nat)(K:Int->Prop):Prop:=match c with|some (some A)=>A.ver=ver/\K ((A.elems.length - skip:Nat):Int)| _=>False
def XM (c:Option (Option Arr))(sz k ver skip:Nat)(n:Int)(K:PV->Prop):Prop:=match c with|some (some A)=>A.ver=ver/\A.sz=sz/\0<=n/\skip+n.toNat<A.elems.length/\K (.ji k ver (skip+n.toNat) 0)| _=>False
def loadRow (c:Option (Option Arr))(agg:Bool)(n ver i off:Nat)(K:PV->Prop):Prop:=match c with
 |some (some A)=>A.ver=ver/\off+n<=(A.elems.getD i default).cells.length/\K (ldD agg n off (A.elems.getD i default).cells)| _=>False
def XD (c:Option (Option Arr))(k ver i o:Nat)(K:PV->Prop):Prop:=match c with|some (some A)=>A.ver=ver/\K (.ji k ver i o)| _=>False
def appRow (c:Option (Option Arr))(sz:Nat)(st1:Bool)(k ver skip:Nat)(ys:List DV)(M:Mem)(K:PV->Mem->Prop):Prop:=match c with
 |some (some A)=>A.ver=ver/\A.sz=sz/\A.st≠2/\A.elems.length+ys.length<=1073741824/\K (.tsl k (ver+1) 0) ⟨M.boxes,M.fz,M.aB.set k (some ⟨sz,A.elems.drop skip++ys,ver+1,bif st1 then 1 else A.st⟩)⟩
 | _=>False
variable {bs:List (Option (List PV))}{fz:List Nat}{ass:List (Option Arr)}
def agt {agg:Bool}{n b off:Nat}{K:PV->Prop}:bP agg n (.ptr b off) ⟨bs,fz,ass⟩ K=RQ bs[b]? agg n off K:=by
 simp only[bP,RQ,Mem.box]
 rcases bs[b]? with _| _|cs<;>simp
def abb {agg:Bool}{n off:Nat}{cs:List PV}{K:PV->Prop}:RQ (some (some cs)) agg n off K=(off+n<=cs.length/\K (ld agg n off cs)):=px
def aeX {n b off:Nat}{v:PV}{K:Mem->Prop}:iV n (.ptr b off) v ⟨bs,fz,ass⟩ K=lJ bs[b]? b n off v ⟨bs,fz,ass⟩ K:=by
 simp only[iV,lJ,Mem.box]
 rcases bs[b]? with _| _|cs<;>simp
def YC {b n off:Nat}{v:PV}{cs:List PV}{K:Mem->Prop}:lJ (some (some cs)) b n off v ⟨bs,fz,ass⟩ K=
  (b∉fz/\v.cells.length=n/\v.cells.all PV.one=true/\off+n<=cs.length/\K ⟨bs.set b (some (splice cs off v.cells)),fz,ass⟩):=px
def Lh {k ver:Nat}:(⟨bs,fz,ass⟩:Mem).row k ver=match ass[k]? with|some (some A)=>if A.ver=ver then some A else none| _=>none:=rfl
def ai2 {k ver skip:Nat}{K:Int->Prop}:qg (.tsl k ver skip) ⟨bs,fz,ass⟩ K=lenRow ass[k]? ver skip K:=by
 simp only[qg,lenRow,Lh]
 rcases ass[k]? with _| _|A
 ·simp
 ·simp
 ·by_cases h:A.ver=ver<;>simp[h]
def adL {ver skip:Nat}{sz v st:Nat}{xs:List DV}{K:Int->Prop}:lenRow (some (some ⟨sz,xs,v,st⟩)) ver skip K=(v=ver/\K ((xs.length - skip:Nat):Int)):=px
def af7 {sz k ver skip:Nat}{a:IntKind}{n:Int}{K:PV->Prop}:rW sz (.tsl k ver skip) (.d (.int a n)) ⟨bs,fz,ass⟩ K=XM ass[k]? sz k ver skip n K:=by
 simp only[rW,XM,Lh]
 rcases ass[k]? with _| _|A
 ·simp
 ·simp
 ·by_cases h:A.ver=ver<;>simp[h]
def adz {sz k ver skip:Nat}{n:Int}{a v st:Nat}{xs:List DV}{K:PV->Prop}:XM (some (some ⟨a,xs,v,st⟩)) sz k ver skip n K=(v=ver/\a=sz/\0<=n/\skip+n.toNat<xs.length/\K (.ji k ver (skip+n.toNat) 0)):=px
def agr {agg:Bool}{n k ver i off:Nat}{K:PV->Prop}:bP agg n (.ji k ver i off) ⟨bs,fz,ass⟩ K=loadRow ass[k]? agg n ver i off K:=by
 simp only[bP,loadRow,Lh]
 rcases ass[k]? with _| _|A
 ·simp
 ·simp
 ·by_cases h:A.ver=ver<;>simp[h]
def abe {agg:Bool}{n ver i off sz v st:Nat}{xs:List DV}{K:PV->Prop}:loadRow (some (some ⟨sz,xs,v,st⟩)) agg n ver i off K=(v=ver/\off+n<=(xs.getD i default).cells.length/\K (ldD agg n off (xs.getD i default).cells)):=px
def ain {off k ver i o:Nat}{K:PV->Prop}:kW off (.ji k ver i o) ⟨bs,fz,ass⟩ K=XD ass[k]? k ver i (o+off) K:=by
 simp only[kW,XD,Lh]
 rcases ass[k]? with _| _|A
 ·simp
 ·simp
 ·by_cases h:A.ver=ver<;>simp[h]
def adb {k ver i o sz v st:Nat}{xs:List DV}{K:PV->Prop}:XD (some (some ⟨sz,xs,v,st⟩)) k ver i o K=(v=ver/\K (.ji k ver i o)):=px
def ahO {sz:Nat}{st1 ex:Bool}{xs ys:List DV}{K:PV->Mem->Prop}:kH sz st1 (.d (.slice true xs)) (.d (.slice ex ys)) ⟨bs,fz,ass⟩ K=
  (0<sz/\(∀y∈ys,y.fits sz=true)/\(st1=true->ys≠[])/\(∀y∈xs,y.fits sz=true)/\xs.length+ys.length<=1073741824/\K (.tsl ass.length 0 0) ⟨bs,fz,ass++ [some ⟨sz,xs++ys,0,bif st1 then 1 else 0⟩]⟩):=by
 simp only[kH,yO,true_and]
def acp {sz k ver skip:Nat}{st1 ex:Bool}{ys:List DV}{K:PV->Mem->Prop}:kH sz st1 (.tsl k ver skip) (.d (.slice ex ys)) ⟨bs,fz,ass⟩ K=
  (0<sz/\(∀y∈ys,y.fits sz=true)/\(st1=true->ys≠[])/\appRow ass[k]? sz st1 k ver skip ys ⟨bs,fz,ass⟩ K):=by
 simp only[kH,yO,appRow,Lh]
 rcases ass[k]? with _| _|A
 ·simp
 ·simp
 ·by_cases h:A.ver=ver<;>simp[h]
def TG {sz k ver skip:Nat}{st1:Bool}{ys:List DV}{a v st:Nat}{xs:List DV}{K:PV->Mem->Prop}:appRow (some (some ⟨a,xs,v,st⟩)) sz st1 k ver skip ys ⟨bs,fz,ass⟩ K=
  (v=ver/\a=sz/\st≠2/\xs.length+ys.length<=1073741824/\K (.tsl k (ver+1) 0) ⟨bs,fz,ass.set k (some ⟨sz,xs.drop skip++ys,ver+1,bif st1 then 1 else st⟩)⟩):=px
def Ii (v:PV)(t:Nat)(ts:List Nat)(K:St->Prop)(env:List (Nat×PV))(M:Mem):Prop:=match datum M v with|some d=>qW ts K ⟨(t, .d d)::env,M.frz [v]⟩|none=>False
def ajK (v:PV)(t:Nat)(ts:List Nat)(K:St->Prop)(env:List (Nat×PV))(M:Mem):Prop:=Ii v t ts K env M
def aip (c:Option (Option (List PV)))(b off t:Nat)(ts:List Nat)(K:St->Prop)(env:List (Nat×PV))(M:Mem):Prop:=match c with
 |some (some cs)=>match gU cs with|some ds=>qW ts K ⟨(t, .d (.aV (ds.drop off)))::env,⟨M.boxes,b::M.fz,M.aB⟩⟩|none=>ajK (.ptr b off) t ts K env M
 | _=>False
def afV {K:St->Prop}{t:Nat}{ts:List Nat}{env:List (Nat×PV)}{m:Mem}:qW (t::ts) K ⟨env,m⟩=Ii (look env t) t ts K env m:=rfl
def Py {M:Mem}:∀{ds:List DV},bW M (ds.map .d)=some ds
 | []=>rfl
 |d::ds=>by simp only[ao,bW,dS,Py]
def air {K:St->Prop}{b off t:Nat}{ts:List Nat}{env:List (Nat×PV)}:Ii (.ptr b off) t ts K env ⟨bs,fz,ass⟩=aip bs[b]? b off t ts K env ⟨bs,fz,ass⟩:=by
 unfold aip;cases a:bs[b]? with
 |none=>simp[Ii,datum,Mem.box,a]
 |some o=>
  cases o with
  |none=>simp[Ii,datum,Mem.box,a]
  |some cs=>
   simp only;cases hd:gU cs with
   |none=>rfl
   |some ds=>
    have:=EJ hd;subst this;have h2:(ds.map PV.d).flatMap rQ=[]:=by
     clear a hd;induction ds with
     |nil=>rfl
     |cons d ds e=>simp[rQ]
    have c:(ds.map PV.d).flatMap rU=[]:=by
     clear a hd h2;induction ds with
     |nil=>rfl
     |cons d ds e=>simp[rU]
    simp only[c,Ii,datum,Mem.box,a,Py,b9,Mem.frz,b5,List.flatMap_nil,kG,kF,h2,bq,List.cons_append,aM,FB,List.foldl_nil]
def aiq {K:St->Prop}{b off t:Nat}{ts:List Nat}{env:List (Nat×PV)}{cs:List PV}:aip (some (some cs)) b off t ts K env ⟨bs,fz,ass⟩=(match gU cs with|some ds=>qW ts K ⟨(t, .d (.aV (ds.drop off)))::env,⟨bs,b::fz,ass⟩⟩|none=>ajK (.ptr b off) t ts K env ⟨bs,fz,ass⟩):=rfl
def ach:gU []=some []:=rfl
def ZM {x:DV}{l:List PV}:gU (.d x::l)=(gU l).map (x::·):=rfl
def fG {base:Nat}{KP:DV->Mem->Prop}{f:FuncId}{args:List PV}{ds ds':List DV}{x:DV}(h1:gU args=some ds)(h2:ds.map DV.strip=ds')(b:Pure C f ds' (.d x) [])(a:K (.d x) M):ak C base (.aj f) args M K KP:=⟨ds,h1,x,h2▸b,a⟩
def akz {x:DV}:PV.one (.d x)=x.one:=rfl
def agC {k:IntKind}{n:Int}:DV.one (.int k n)=true:=rfl
def ad1 {b:Bool}:DV.one (.bool b)=true:=rfl
def agE {s:ByteArray}:DV.one (.str s)=true:=rfl
def abo {ex:Bool}{xs:List DV}:DV.one (.slice ex xs)=true:=rfl
def agD {r:Option (List (DV×DV))}:DV.one (.map r)=true:=rfl
end
def au {C:Ctx}{M:Mem}{K:PV->Mem->Prop}{base:Nat}{KP:DV->Mem->Prop}{f:FuncId}{args:List PV}{ds ds':List DV}{x:DV}(b:Pure C f ds' (.d x) [])(a:K (.d x) M)(h1:gU args=some ds:=by rfl)(h2:ds.map DV.strip=ds':=by rfl):ak C base (.aj f) args M K KP:=fG h1 h2 b a
inductive Ty where
 |int (k:IntKind)
 |bool
 |str
 |slice (e:Ty)
 |struct (fs:List Ty)
mutual
def Ty.size:Ty->Nat
 | .struct fs=>Di fs
 | _=>1
def Di:List Ty->Nat
 | []=>0
 |t::a=>t.size+Di a
end
def Ty.lD:Ty->Bool
 | .int .i64=>true
 | .struct (.int .i64::_)=>true
 | .struct (.bool:: .int .i64::_)=>true
 | _=>false
def Ty.isStruct:Ty->Bool
 | .struct _=>true
 | _=>false
def Shp (e:Ty)(x:DV):Prop:=(e.isStruct=true->∃cs,x= .agg cs)/\(e.isStruct=false->x.cells=[x])
inductive Has:Ty->List DV->Prop
 |int {k:IntKind} {n:Int} (h:(Lit.int k n).wf=true):Has (.int k) [.int k n]
 |bool {b:Bool}:Has .bool [.bool b]
 |str {s:ByteArray} (h:s.size<=maxLen):Has .str [.str s]
 |slice {e:Ty} {xs:List DV} (h:∀x∈xs,Has e x.cells) (h':∀x∈xs,Shp e x):Has (.slice e) [.slice false xs]
 |nil:Has (.struct []) []
 |cons {t:Ty} {ts:List Ty} {ds es:List DV} (h:Has t ds) (h':Has (.struct ts) es):Has (.struct (t::ts)) (ds++es)
mutual
def zH (P:Program):Ty->TypeId->Bool
 | .int k,t=>(match P.underlying t with|some (.int b)=>decide (b=k)| _=>false)&&P.cellsOf t==1
 | .bool,t=>(match P.underlying t with|some .bool=>true| _=>false)&&P.cellsOf t==1
 | .str,t=>(match P.underlying t with|some .string=>true| _=>false)&&P.cellsOf t==1
 | .slice e,t=>(match P.underlying t with|some (.slice u)=>zH P e u&&e.lD| _=>false)&&P.cellsOf t==1
 | .struct fs,t=>(match P.underlying t with|some (.struct a)=>Qd P fs a.toList 0| _=>false)&&P.cellsOf t==Di fs
def Qd (P:Program):List Ty->List Field->Nat->Bool
 | [],[],_=>true
 |t::b,g::a,off=>zH P t g.type&&decide (g.offset=off)&&Qd P b a (off+t.size)
 | _,_,_=>false
end
def Qc {P:Program}:∀{T:Ty} {t:TypeId},zH P T t=true->P.cellsOf t=T.size
 | .int k,t,h=>by simp[zH]at h;simp[Ty.size,h.2]
 | .bool,t,h=>by simp[zH]at h;simp[Ty.size,h.2]
 | .str,t,h=>by simp[zH]at h;simp[Ty.size,h.2]
 | .slice e,t,h=>by simp[zH]at h;simp[Ty.size,h.2]
 | .struct fs,t,h=>by simp[zH]at h;simp[Ty.size,h.2]
def Rw:∀{e:Ty},e.lD=true->0<e.size
 | .int k,_=>by simp[Ty.size]
 | .struct (t::a),h=>by
  cases t with
  |int k=>simp only[Ty.size,Di];omega
  |bool=>simp only[Ty.size,Di];omega
  | _=>simp[Ty.lD]at h
 | .bool,_=>by simp[Ty.size]
 | .str,_=>by simp[Ty.size]
 | .slice _,_=>by simp[Ty.size]
 | .struct [],h=>by simp[Ty.lD]at h
def UE:∀{T:Ty} {ds:List DV},Has T ds->ds.length=T.size:=by
 intro T ds h
 induction h with
 |cons h b c a=>simp only[bk,Ty.size,Di]at*;omega
 | _=>simp[Ty.size,Di]
def Ij {e:Ty}{ds:List DV}(a:e.lD=true)(h:Has e ds):∃k n,k<e.size/\ds[k]?=some (.int .i64 n)/\(e.isStruct=false->k=0):=by
 cases h with
 |int h=>rename_i k n;cases k<;>simp[Ty.lD]at a;exact⟨0,n,by simp[Ty.size],rfl,fun _=>rfl⟩
 |cons h b=>
  rename_i t c ds es
  cases h with
  |int h=>rename_i k n;cases k<;>simp[Ty.lD]at a;exact⟨0,n,by simp[Ty.size,Di];omega,rfl,fun _=>rfl⟩
  |bool=>
   cases b with
   |nil=>simp[Ty.lD]at a
   |cons h b=>
    cases h with
    | @int k n h=>cases k<;>simp[Ty.lD]at a;exact⟨1,n,by simp[Ty.size,Di];omega,rfl,fun h=>by simp[Ty.isStruct]at h⟩
    | _=>simp[Ty.lD]at a
  | _=>simp[Ty.lD]at a
 | _=>simp[Ty.lD]at a
section
variable {H:Type}{enc:TypeId×Value->H}{P:Program}{w:World}{base:Nat}{spare:Nat->Bool}{held:Bool}{O:Nat->Prop}
def cells_at {a:Addr}{n:Nat}{cs:List Value}(h:w.cells? base a n=some cs)(p:0<n):∃c T fz,a.spot=none/\w.heap[a.block]?=some (.cells c T fz)/\(c.toList.drop a.off).take n=cs:=by
 obtain⟨_,r,k⟩:=World.cells?_some h;have d:=k 0 p;have j:cs[0]?=some cs[0]:=ae (by omega);rw[j]at d;obtain⟨e,off,b⟩:=a;have m:b=none:=by
  cases b with
  |none=>rfl
  |some q=>simp only[World.cell?,Addr.add]at d;split at d<;>simp at d
 subst m;simp only[Addr.add_lit]at k d;cases g:w.heap[e]? with
 |none=>simp[World.cell?,g]at d
 |some o=>
  cases o with
  |cells c T fz=>
   refine⟨c,T,fz,rfl,rfl,?_⟩;have l:∀i,i<n->c[off+i]?=cs[i]?:=fun i f=>by
    have:=k i f
    rwa [cell_of_row w e (off+i) c T fz g]at this
   apply b4;intro i
   by_cases f:i<n
   ·rw[aD,if_pos f,bj,a6]
    exact l i f
   ·rw[aD,if_neg f,bL (by omega)]
  | _=>simp[World.cell?,g]at d
def pieces {c:Array Value}{off sz:Nat}{e:Ty}(a:e.size=sz):∀(k:Nat),(∀i,i<k->∃x:DV,Has e x.cells/\Shp e x/\aU w O ((c.toList.drop (off+i*sz)).take sz) x.cells)->
  ∃xs:List DV,xs.length=k/\(∀x∈xs,Has e x.cells)/\(∀x∈xs,Shp e x)/\aU w O ((c.toList.drop off).take (k*sz)) (flat xs)
 |0,_=>⟨[],rfl,fun x b=>by simp at b,fun x b=>by simp at b,by simpa[flat]using .nil⟩
 |k+1,h=>by
  obtain⟨xs,h1,h2,l,m⟩:=pieces a k fun i n=>h i (by omega)
  obtain⟨x,f,g,j⟩:=h k (by omega);refine⟨xs++ [x],by simp[h1],?_,?_,?_⟩
  ·intro y hy
   rcases aL.1 hy with hy|hy
   ·exact h2 y hy
   ·simp at hy;subst hy;exact f
  ·intro y hy
   rcases aL.1 hy with hy|hy
   ·exact l y hy
   ·simp at hy;subst hy;exact g
  ·have d:(c.toList.drop off).take ((k+1)*sz)=(c.toList.drop off).take (k*sz)++(c.toList.drop (off+k*sz)).take sz:=by
    rw[Nat.add_mul,Nat.one_mul,cm,cf]
   rw[d,uJ];refine m.append ?_
   simpa[flat]using j
mutual
def Sv (Q:∀b,O b->∀c T fz,w.heap[b]?=some (.cells c T fz)->∀(i:Nat) (n:Int),c[i]?≠some (.int .i64 n)):∀(T:Ty) (g:Nat) (t:TypeId) (cs:List Value) (x:DataW H×List MemPlace),zH P T t=true->
  DataW.trod enc P w base spare held g t cs=some x->∃ds,Has T ds/\aU w O cs ds
 | .int k,g,t,cs,x,f,h=>by
  simp only[zH,Z]at f;obtain⟨f,_⟩:=f
  split at f
  ·rename_i k' l
   simp only[decide_eq_true_eq]at f;subst f;cases g with
   |zero=>simp[DataW.trod]at h
   |succ g=>
    unfold DataW.trod at h;rw[l]at h
    split at h<;>simp_all
    obtain⟨⟨rfl,hw⟩,_⟩:=h;exact⟨_, .int hw, .cons (.int _ _) .nil⟩
  ·cases f
 | .bool,g,t,cs,x,f,h=>by
  simp only[zH,Z]at f;obtain⟨f,_⟩:=f
  split at f
  ·rename_i l
   cases g with
   |zero=>simp[DataW.trod]at h
   |succ g=>
    unfold DataW.trod at h;rw[l]at h
    split at h<;>simp_all
    exact⟨_, .bool, .cons (.bool _) .nil⟩
  ·cases f
 | .str,g,t,cs,x,f,h=>by
  simp only[zH,Z]at f;obtain⟨f,_⟩:=f
  split at f
  ·rename_i l
   cases g with
   |zero=>simp[DataW.trod]at h
   |succ g=>
    unfold DataW.trod at h;rw[l]at h
    split at h<;>simp_all
    exact⟨_, .str h.1, .cons (.str _) .nil⟩
  ·cases f
 | .slice e,g,t,cs,x,f,h=>by
  simp only[zH,Z]at f;obtain⟨f,_⟩:=f
  split at f
  ·rename_i u l
   simp only[Z]at f;obtain⟨hu,hint⟩:=f;have X:=Qc hu;have p:=Rw hint
   rcases Go.Deep.open_slice l h with⟨rfl,_⟩|⟨a,len,cap,m,n,D,Pl,rfl,_,B,_,hm,_,C⟩
   ·exact⟨_, .slice (xs:=[]) (fun x o=>by simp at o) (fun x o=>by simp at o), .cons (.empty (fun hh=>by cases hh)) .nil⟩
   ·have aq:len<=m:=by rw[hm];split<;>omega
    rw[X]at C;have I:∀i,i<len->∃j,w.cells? base (a.add (i*e.size)) e.size=some j/\∃ds,Has e ds/\aU w O j ds:=by
     intro i hi;obtain⟨j,S,U⟩:=C i (by omega);exact⟨j,S,Sv Q e n _ j _ hu U⟩
    by_cases h0:len=0
    ·subst h0
     exact⟨_, .slice (xs:=[]) (fun x o=>by simp at o) (fun x o=>by simp at o), .cons (.empty (fun hh=>by cases hh)) .nil⟩
    ·obtain⟨an,A,ao,V,W⟩:=I 0 (by omega)
     rw[cr]at A;obtain⟨c,T,fz,J,M,K⟩:=cells_at A p;obtain⟨N,off,ai⟩:=a;simp only[Addr.add,if_true]at J M K;subst J;have ac:=pieces (w:=w) (O:=O) (c:=c) (off:=off) (sz:=e.size) (e:=e) rfl len (fun i hi=>by
      obtain⟨j,g1,ds,L,g3⟩:=I i hi;obtain⟨c',T',ap,_,q,aiW⟩:=cells_at g1 p;simp only[Addr.add_lit]at q aiW;rw[M]at q;cases q;cases z:e.isStruct with
      |true=>
       refine⟨.agg ds,L,⟨fun _=>⟨ds,rfl⟩,fun hh=>by rw[z]at hh;cases hh⟩,?_⟩;rw[aiW];exact g3
      |false=>
       have G:e.size=1:=by cases e<;>simp_all[Ty.size,Ty.isStruct]
       have hl:=UE L;rw[G]at hl;obtain⟨d,rfl⟩:=List.length_eq_one_iff.1 hl;have s:d.cells=[d]:=by
        obtain⟨k,n,_,F,l⟩:=Ij hint L;rw[l z]at F;simp at F;subst F;rfl
       refine⟨d,(by rw[s];exact L),⟨fun hh=>(by rw[z]at hh;cases hh),fun _=>s⟩,?_⟩;rw[aiW,s];exact g3)
     obtain⟨xs,x1,x2,x3,x4⟩:=ac;refine⟨_, .slice x2 x3, .cons (.slice (sz:=e.size) M ?_ x1 (fun x o=>UE (x2 x o)) B (fun hh=>by cases hh) x4) .nil⟩;intro R;obtain⟨k,n,l,F,_⟩:=Ij hint V;obtain⟨v,hv,ab⟩:=W.get' k _ F;have Y:=ab.eX;subst Y;have r:c[off+k]?=some (.int .i64 n):=by
      have h5:((c.toList.drop off).take e.size)[k]?=some (.int .i64 n):=by rw[K];exact hv
      rw[aD,if_pos l,bj,a6]at h5;exact h5
     exact Q N R c T fz M (off+k) n r
  ·cases f
 | .struct fs,g,t,cs,x,f,h=>by
  simp only[zH,Z,beq_iff_eq]at f;obtain⟨f,y⟩:=f
  split at f
  ·rename_i gs l
   cases g with
   |zero=>simp[DataW.trod]at h
   |succ g=>
    unfold DataW.trod at h;rw[l]at h;simp only at h
    split at h
    ·rename_i E
     rw[Option.map_eq_some_iff]at h;obtain⟨ys,ae,_⟩:=h;obtain⟨ds,h1,h2⟩:=VJ Q fs g gs.toList 0 cs ys f ae;refine⟨ds,h1,?_⟩;rw[cg,List.take_of_length_le (by rw[E,y];exact am _)]at h2;exact h2
    ·cases h
  ·cases f
def VJ (k:∀b,O b->∀c T fz,w.heap[b]?=some (.cells c T fz)->∀(i:Nat) (n:Int),c[i]?≠some (.int .i64 n)):∀(fs:List Ty) (a:Nat) (e:List Field) (off:Nat) (cs:List Value) (ys:List (DataW H×List MemPlace)),Qd P fs e off=true->
  (e.mapM fun f=>DataW.trod enc P w base spare held a f.type ((cs.drop f.offset).take (P.cellsOf f.type)))=some ys->∃ds,Has (.struct fs) ds/\aU w O ((cs.drop off).take (Di fs)) ds
 | [],a,[],off,cs,ys,_,_=>⟨[], .nil,by simpa[Di]using .nil⟩
 |T::fs,a,g::e,off,cs,ys,d,h=>by
  simp only[Qd,Z,decide_eq_true_eq]at d;obtain⟨⟨h1,h2⟩,m⟩:=d;simp only[List.mapM_cons,Option.bind_eq_bind,Option.bind_eq_some_iff,Option.pure_def,Option.some.injEq]at h;obtain⟨y,j,zs,l,_⟩:=h;rw[h2,Qc h1]at j;obtain⟨ds,o,p⟩:=Sv k T a g.type _ y h1 j;obtain⟨es,r1,r2⟩:=VJ k fs a e (off+T.size) cs zs m l;refine⟨ds++es, .cons o r1,?_⟩;simp only[Di];rw[cm,cf];exact p.append r2
 | [],a,_::_,_,_,_,d,_=>by simp[Qd]at d
 | _::_,a,[],_,_,_,d,_=>by simp[Qd]at d
end
end
open Go.ChangeShapes Go.WideShapes Go.RowKit
def ZJ (T:Ty)(d:DV):Prop:=Has T d.cells/\Shp T d
def AX:List Ty->List DV->Prop
 | [],[]=>True
 |T::a,d::ds=>ZJ T d/\AX a ds
 | _,_=>False
def BG (P:Program):List Ty->List TypeId->Bool
 | [],[]=>true
 |T::a,t::b=>zH P T t&&BG P a b
 | _,_=>false
def af0 {T:Ty}{ds:List DV}(h:Has T ds)(hs:T.isStruct=false):∃x,ds=[x]/\x.cells=[x]:=by
 cases h with
 |nil=>cases hs
 |cons=>cases hs
 | _=>exact⟨_,rfl,rfl⟩
section
variable {H:Type}{enc:TypeId×Value->H}{P:Program}{w:World}{base:Nat}{spare:Nat->Bool}{held:Bool}{O:Nat->Prop}
def aeh (s:∀b,O b->∀c T fz,w.heap[b]?=some (.cells c T fz)->∀(i:Nat) (n:Int),c[i]?≠some (.int .i64 n)){T:Ty}{t:TypeId}{v:Value}{d:DataW H}{ps:List MemPlace}{r:Reach}{p:Nat}
  (f:zH P T t=true)(g:Value.okWide P w r p t v)(h:DataW.Trod enc P w base spare held t v d ps):∃x,ZJ T x/\bF w O v x:=by
 obtain⟨l,z⟩:=h;obtain⟨ds,h1,h2⟩:=Sv s T l t _ _ f z;have one:T.isStruct=false->(∀cs,v≠ .agg cs)->∃x,ZJ T x/\bF w O v x:=by
  intro m A;obtain⟨x,rfl,o⟩:=af0 h1 m;have y:v.cells= #[v]:=by cases v<;>first|rfl|(exact absurd rfl (A _))
  rw[y]at h2;cases h2 with
  |cons q _=>
   exact⟨x,⟨by rw[o];exact h1,⟨fun hh=>(by rw[m]at hh;cases hh),fun _=>o⟩⟩,q⟩
 cases T with
 |int k=>
  simp only[zH,Z]at f
  split at f
  ·rename_i C j
   obtain⟨n,rfl⟩:=okWide_int j g;exact one rfl fun cs hh=>by cases hh
  ·cases f.1
 |bool=>
  simp only[zH,Z]at f
  split at f
  ·rename_i j
   obtain⟨n,rfl⟩:=okWide_bool j g;exact one rfl fun cs hh=>by cases hh
  ·cases f.1
 |str=>
  simp only[zH,Z]at f
  split at f
  ·rename_i j
   obtain⟨n,rfl⟩:=okWide_string j g;exact one rfl fun cs hh=>by cases hh
  ·cases f.1
 |slice e=>
  simp only[zH,Z]at f
  split at f
  ·rename_i u j
   obtain⟨a,len,cap,rfl⟩:=okWide_slice j g;exact one rfl fun cs hh=>by cases hh
  ·cases f.1
 |struct fs=>
  simp only[zH,Z]at f
  split at f
  ·rename_i B j
   obtain⟨cs,rfl,_⟩:=okWide_struct j g;exact⟨.agg ds,⟨h1,⟨fun _=>⟨ds,rfl⟩,fun hh=>(by cases hh)⟩⟩, .agg h2⟩
  ·cases f.1
def VI (f:∀b,O b->∀c T fz,w.heap[b]?=some (.cells c T fz)->∀(i:Nat) (n:Int),c[i]?≠some (.int .i64 n)){r:Reach}{k:Nat}:∀{Ts:List Ty} {ts:List TypeId} {vs:List Value} {ds:List (DataW H)} {ps:List MemPlace},
  BG P Ts ts=true->(∀(j:Nat) t v,ts[j]?=some t->vs[j]?=some v->Value.okWide P w r k t v)->DataW.TrodAll enc P w base spare held ts vs ds ps->∃xs,AX Ts xs/\aU w O vs xs
 | [],[],[],[],_,_,_,_=>⟨[],trivial, .nil⟩
 |T::Ts,t::ts,v::vs,d::ds,ps,a,g,h=>by
  simp only[BG,Z]at a;obtain⟨p,q,h1,h2,_⟩:=h;obtain⟨x,l,m⟩:=aeh f a.1 (g 0 t v rfl rfl) h1;obtain⟨xs,o,s⟩:=VI f a.2 (fun j y z u e=>g (j+1) y z (by simpa using u) (by simpa using e)) h2;exact⟨x::xs,⟨l,o⟩, .cons m s⟩
 | [],_::_,_,_,_,a,_,_=>by simp[BG]at a
 | _::_,[],_,_,_,a,_,_=>by simp[BG]at a
 | [],[],_::_,_,_,_,_,h=>by cases h
 | [],[],[],_::_,_,_,_,h=>by cases h
 | _::_,_::_,[],_,_,_,_,h=>by cases h
 | _::_,_::_,_::_,[],_,_,_,h=>by cases h
variable{w':World}
def U4 (h:Later w w'):Below w.heap.size w w':=⟨h.os,h.tape,h.output,h.size,h.keep⟩
variable{args:Array Value}
def aa8 {C:Ctx}{f:FuncId}{Ts:List Ty}{ts:List TypeId}{ds:List (DataW H)}{ps:List MemPlace}{r:Reach}{m:Nat}
  (q:C.P=P)(p:C.G w)(a:∀b,C.low b->b<w.heap.size/\∀c T fz,w.heap[b]?=some (.cells c T fz)->∀(i:Nat) (n:Int),c[i]?≠some (.int .i64 n))
  (k:BG P Ts ts=true)(hv:∀(j:Nat) t v,ts[j]?=some t->args.toList[j]?=some v->Value.okWide P w r m t v)(h:DataW.TrodAll enc P w base spare held ts args.toList ds ps)
  (XK:∀xs,AX Ts xs->Pure C f xs (.d (.bool true)) []):Calls P f args w fun e w'=>e= .returned (.bool true)/\Below w.heap.size w w':=by
 obtain⟨xs,h1,h2⟩:=VI (O:=C.low) (fun b g=>(a b g).2) k hv h;have:=XK xs h1 C.low w args.toList p (fun b g=>g) (fun b g=>(a b g).1) h2;rw[q,Array.toArray_toList]at this;refine Calls.mono this fun e w' s=> ?_
 obtain⟨v,E',rfl,x,o,u⟩:=s;have l:=u.toD.mg;subst l;exact⟨rfl,U4 o.ET⟩
def Gt {w':World}(hl:laidOutB P=true)(hb:Below w.heap.size w w'):∀{ts:List TypeId} {vs:List Value} {ds:List (DataW H)} {ps:List MemPlace},(∀t∈ts,P.readableRec t=true/\t<P.types.size)->
  DataW.TrodAll enc P w 0 (fun _=>true) true ts vs ds ps->(∀x∈ps,x.block<w.heap.size)->DataW.TrodAll enc P w' 0 (fun b=>decide (b<w.heap.size)) true ts vs ds ps
 | [],[],[],_,_,h,_=>h
 |t::ts,v::vs,d::ds,ps,g,h,c=>by
  obtain⟨p,q,h1,h2,rfl⟩:=h;obtain⟨a,b⟩:=g t (by simp);exact⟨p,q,Below.trod hl a b h1 hb (fun x f=>c x (by simp[f])),Gt hl hb (fun i e=>g i (by simp[e])) h2 (fun x f=>c x (by simp[f])),rfl⟩
 | [],_::_,_,_,_,h,_=>by cases h
 | [],[],_::_,_,_,h,_=>by cases h
 | _::_,[],_,_,_,h,_=>by cases h
 | _::_,_::_,[],_,_,h,_=>by cases h
def adH {f:Func}{s:ChangeSpec}{apart fresh a:Bool}{ds:List (DataW H)}{c:List MemPlace}{tb:TypeId}(hl:laidOutB P=true)(b:s.vars=[])
  (l:DataW.Whole enc P f.params.toList s.vars apart w args.toList ds [] c)(g:f.resultTypes= #[tb])(i:P.underlying tb=some .bool)(j:∀t∈f.params.toList,P.readableRec t=true/\t<P.types.size)
  (d:s.fn H (ds++ [])={results:=[.lit (.bool true)],args:=ds})(hb:Below w.heap.size w w'):s.post enc P f apart fresh a false w args (.bool true) w':=by
 have e:=l;obtain⟨p,q,m,k,rfl,_,_⟩:=l;have n:q=[]:=by rw[b]at k;exact k
 subst n;refine⟨ds,[],p++ [],[],p,[],e,?_,?_,?_,hb.frame _,fun h=>by cases h⟩
 ·rw[d,g]
  exact trodAll_mk1 (shut_bool i true)
 ·rw[d]
  exact Gt hl hb j m fun x o=>e.lt x (by simp[o])
 ·rw[d,b];rfl
end
def U7 {n m:Nat}:∀{env:List (Nat×PV)},(env.all fun p=>p.2.upto n m)=true->∀t,(look env t).upto n m=true
 | [],_,t=>by simp[look,PV.upto]
 |(k,v)::l,h,t=>by
  simp only[bp,Z]at h;simp only[look];cases a:(k==t)with
  |true=>simpa using h.1
  |false=>simpa using U7 h.2 t
def Weak.take {nb na n m:Nat}{env:List (Nat×PV)}{bs:List (Option (List PV))}{fz:List Nat}{ass:List (Option Arr)}(h1:nb<=n)(h2:na<=m)(e:(env.all fun p=>p.2.upto n m)=true)
  (d:((bs.take n).all fun c=>(c.getD []).all fun p=>p.upto n m)=true):Weak nb na ⟨env,⟨bs,fz,ass⟩⟩ ⟨env,⟨bs.take n,fz.filter (fun b=>decide (b<n)),ass.take m⟩⟩:=by
 refine .inr ⟨n,m,h1,h2,rfl,fun t=> .inr ⟨rfl,U7 e t⟩,fun cs a c f=> ?_⟩;simp only[bc]at d;exact d cs a c f
def Weak.same {nb na:Nat}{env:List (Nat×PV)}{bs:List (Option (List PV))}{fz:List Nat}{ass:List (Option Arr)}(h1:nb<=bs.length)(h2:na<=ass.length)(a:(env.all fun p=>p.2.upto bs.length ass.length)=true)
  (d:(bs.all fun c=>(c.getD []).all fun p=>p.upto bs.length ass.length)=true):Weak nb na ⟨env,⟨bs,fz,ass⟩⟩ ⟨env,⟨bs,fz.filter (fun b=>decide (b<bs.length)),ass⟩⟩:=by
 have:=Weak.take (fz:=fz) (ass:=ass) h1 h2 a (by rw[b7];exact d)
 simpa using this
section
variable {C:Ctx}{base:Nat}{M:Mem}{K:PV->Mem->Prop}{KP:DV->Mem->Prop}
def ac4 {sz:Nat}:ak C base (.dA sz [] []) [] M K KP=K (.d (.slice true [])) M:=by
 have:=zT (M:=M) (ds:=[]);simp only[aw]at this;simp only[ak,cZ,aw,qy,this]
def dV {sz:Nat}{z x:DV}:ak C base (.dA sz [z] [0]) [.d x] M K KP=(x.strip.cells.length=sz/\K (.d (.slice true [x.strip])) M):=by
 have:=zT (M:=M) (ds:=[x]);simp only[ao,aw]at this;simp only[ak,cZ,datum,ao,aw,qy,this,List.length_singleton,Nat.zero_lt_one,and_true]
 by_cases h:x.strip.cells.length=sz
 ·simp[h]
 ·simp[h]
variable{bs:List (Option (List PV))}{fz:List Nat}{ass:List (Option Arr)}{k s:Nat}{A:Arr}
def agv (h:ass[k]?=some (some A)):mkRow ⟨bs,fz,ass⟩ (k,s)=⟨A.sz,A.elems.drop s,0,A.st⟩:=by simp only[mkRow,h]
def jL {ver:Nat}(h:ass[k]?=some (some A))(hv:A.ver=ver)(hs:s<=A.elems.length){A':Arr}(b:A'=⟨A.sz,A.elems.drop s,0,A.st⟩):
  ∃L,uP ⟨bs,fz,ass⟩ L/\ren ⟨bs,fz,ass⟩ L (.tsl k ver s)= .tsl 0 0 0/\L.map (mkRow ⟨bs,fz,ass⟩)=[A']:=by
 refine⟨[(k,s)],⟨fun q a=> ?_,by simp⟩,?_,?_⟩
 ·simp only[bS]at a
  subst a;simp only[yY,h]
  simpa using hs
 ·simp[ren,N9,I8,Mem.row,h,hv]
 ·simp only[ao,aw,agv h,b]
end
end Go.Am
namespace Go.Tel
open Go.Am
def aF {n:Int}(h: -9223372036854775808<=n/\n<=9223372036854775807):IntKind.i64.wrap n=n:=Go.IntWalk.i64_in _ (by omega)
structure Pt where
 x:Int
 y:Int
 deriving DecidableEq,Inhabited
structure Wh where
 iY:Int
 nD:Int
 layer:Int
 aO:Int
 deriving DecidableEq,Inhabited
structure Ms where
 a:Int
 b:Int
 deriving DecidableEq,Inhabited
structure Tn where
 num:Int
 den:Int
 deriving DecidableEq,Inhabited
structure Piece where
 w:Int
 h:Int
 pl:Int
 ga:Int
 po:Int
 cs:List Pt
 ws:List Wh
 ms:List Ms
 deriving DecidableEq,Inhabited
def ay (n:Int):DV:= .int .i64 n
def Pt.dv (p:Pt):DV:= .agg [.int .i64 p.x, .int .i64 p.y]
def Wh.dv (p:Wh):DV:= .agg [.int .i64 p.iY, .int .i64 p.nD, .int .i64 p.layer, .int .i64 p.aO]
def Ms.dv (p:Ms):DV:= .agg [.int .i64 p.a, .int .i64 p.b]
def Tn.dv (p:Tn):DV:= .agg [.int .i64 p.num, .int .i64 p.den]
def Piece.dv (p:Piece):DV:= .agg [.int .i64 p.w, .int .i64 p.h, .int .i64 p.pl, .int .i64 p.ga, .int .i64 p.po, .slice false (p.cs.map Pt.dv), .slice false (p.ws.map Wh.dv), .slice false (p.ms.map Ms.dv)]
def aZ {n:Int}:ay n= .int .i64 n:=by rw[ay]
def sK {p:Pt}:p.dv= .agg [.int .i64 p.x, .int .i64 p.y]:=by rw[Pt.dv]
def jX {p:Wh}:p.dv= .agg [.int .i64 p.iY, .int .i64 p.nD, .int .i64 p.layer, .int .i64 p.aO]:=by rw[Wh.dv]
def Cm {p:Ms}:p.dv= .agg [.int .i64 p.a, .int .i64 p.b]:=by rw[Ms.dv]
def alM {p:Tn}:p.dv= .agg [.int .i64 p.num, .int .i64 p.den]:=by rw[Tn.dv]
def fD {p:Piece}:p.dv= .agg [.int .i64 p.w, .int .i64 p.h, .int .i64 p.pl, .int .i64 p.ga, .int .i64 p.po, .slice false (p.cs.map Pt.dv), .slice false (p.ws.map Wh.dv), .slice false (p.ms.map Ms.dv)]:=by rw[Piece.dv]
structure Laid where
 p:Piece
 mm:List Ms
 gone:List Int
 deriving Inhabited
def Laid.dv (l:Laid):DV:=
 .agg [.int .i64 l.p.w, .int .i64 l.p.h, .int .i64 l.p.pl, .int .i64 l.p.ga, .int .i64 l.p.po, .slice false (l.p.cs.map Pt.dv), .slice false (l.p.ws.map Wh.dv), .slice false (l.p.ms.map Ms.dv),
  .map (some (l.mm.map fun m=>(m.dv, .bool true))), .slice false (l.gone.map ay)]
def iZ {l:Laid}:l.dv= .agg [.int .i64 l.p.w, .int .i64 l.p.h, .int .i64 l.p.pl, .int .i64 l.p.ga, .int .i64 l.p.po, .slice false (l.p.cs.map Pt.dv), .slice false (l.p.ws.map Wh.dv), .slice false (l.p.ms.map Ms.dv),
  .map (some (l.mm.map fun m=>(m.dv, .bool true))), .slice false (l.gone.map ay)]:=by rw[Laid.dv]
variable{i:Nat}
def getD_map {α:Type}[Inhabited α]{f:α->DV}{l:List α}(h:i<l.length):(l.map f).getD i default=f (l.getD i default):=by
 rw[ai,ai,a7,ae h];rfl
def drop_cons {α:Type}[Inhabited α]{l:List α}(h:i<l.length):l.drop i=l.getD i default::l.drop (i+1):=by
 rw[List.drop_eq_getElem_cons h];simp[List.getD,h]
def inR (n l h:Int):Bool:=decide (n>=l)&&decide (n<=h)
def AA (w h:Int):List Pt->List Pt->Bool
 | _,[]=>true
 |a,c::cs=>inR c.x 0 w&&inR c.y 0 h&& !a.contains c&&AA w h (a++ [c]) cs
def zY (n:Int):List Ms->List Ms->Bool
 | _,[]=>true
 |c,m::ms=>inR m.a 0 (n - 1)&&inR m.b 0 (n - 1)&& !decide (m.a>=m.b)&& !c.contains m&&zY n (c++ [m]) ms
def FH (n:Int)(w:Wh):Bool:=inR w.iY 0 (n - 1)&&inR w.nD 0 2&&inR w.layer 0 5&&inR w.aO 4 50
def Piece.DL (p:Piece):Bool:=inR p.w 1 120&&inR p.h 1 120&&inR p.pl 0 4&&inR p.ga 0 4&&inR p.po 0 3
def Piece.Bq (p:Piece):Bool:=inR p.cs.length 1 6&& !decide ((p.ws.length:Int)>8)&& !decide ((p.ms.length:Int)>10)
def Piece.ok (p:Piece):Bool:=p.DL&&p.Bq&&AA p.w p.h [] p.cs&&zY p.ws.length [] p.ms&&p.ws.all (FH p.cs.length)
def Piece.wh (p:Piece)(a:Int):Wh:=p.ws.getD a.toNat default
def Piece.pt (p:Piece)(a:Int):Pt:=p.cs.getD (p.wh a).iY.toNat default
def sq (n:Int):Int:=n*n
def Piece.mesh (p:Piece)(a b:Int):Bool:=p.ms.contains ⟨min a b,max a b⟩
def Piece.far (p:Piece)(a b:Int):Int:=sq ((p.pt a).x - (p.pt b).x)+sq ((p.pt a).y - (p.pt b).y)
def Piece.sum (p:Piece)(a b:Int):Int:=(p.wh a).aO+(p.wh b).aO
def Piece.o9 (p:Piece)(a b:Int):Bool:=(p.wh a).iY==(p.wh b).iY
def Piece.level (p:Piece)(a b:Int):Bool:=(p.wh a).layer==(p.wh b).layer
def Piece.Fh (p:Piece)(a b:Int):Bool:=p.o9 a b&&(p.wh a).nD==(p.wh b).nD
def Piece.apart (p:Piece)(a b:Int):Bool:=
 p.mesh a b&&(!p.level a b||p.o9 a b||decide (p.far a b<sq (p.sum a b))||decide (p.far a b>sq (p.sum a b+p.pl)))
def Piece.touch (p:Piece)(a b:Int):Bool:= !p.mesh a b&&p.level a b&& !p.o9 a b&&decide (p.far a b<sq (p.sum a b+p.ga))
def Piece.same (p:Piece)(a b:Int):Bool:=p.o9 a b&&p.level a b
def Piece.bounds (p:Piece)(gone:List Int)(o:Int):Nat->List Wh->Int×Int->Int×Int
 | _,[],r=>r
 |i,w::ws,r=>Piece.bounds p gone o (i+1) ws (if p.Fh i o&& !gone.contains (i:Int)then(min r.1 w.layer,max r.2 w.layer)else r)
def Piece.nested (p:Piece)(gone:List Int)(a b:Int):Bool:=
 if !p.o9 a b||p.Fh a b||p.level a b then false
 else
  let i:=if(p.wh a).nD>(p.wh b).nD then b else a
  let o:=if(p.wh a).nD>(p.wh b).nD then a else b
  let r:=p.bounds gone o 0 p.ws ((p.wh o).layer,(p.wh o).layer)
  inR (p.wh i).layer (r.1+1) (r.2 - 1)
def Piece.post (p:Piece)(a b:Int):Bool:=decide ((p.wh a).layer<=(p.wh b).layer)&&decide (p.far a b<sq ((p.wh a).aO+p.po))
def Piece.JM (p:Piece)(a b:Int):Bool:= !p.o9 a b&&(p.post a b||p.post b a)
def Piece.Um (p:Piece)(a:Int):Bool:=
 decide ((p.pt a).x<(p.wh a).aO)||decide ((p.pt a).y<(p.wh a).aO)||decide ((p.pt a).x+(p.wh a).aO>p.w)||decide ((p.pt a).y+(p.wh a).aO>p.h)
def Piece.wrong (p:Piece)(gone:List Int)(a b:Int):Int:=
 if a=b then(if p.Um a then 1 else 0)
 else if p.apart a b then 2 else if p.touch a b then 3 else if p.same a b then 4 else if p.nested gone a b then 5 else if p.JM a b then 6 else 0
end Go.Tel
namespace Go.Am
section
variable {C:Ctx}{base nb na:Nat}{K:St->Prop}{KP:DV->Mem->Prop}{Q:Ex->St->Prop}{env:List (Nat×PV)}{m:Mem}
variable{t:Nat}{b:Bool}
def aH {d:Option Nat}{op:POp}{args:List Opd}{fl:Nat}{w:Bool}(hb:look env t= .d (.bool b))(h1:b=true->dO C base ⟨d,op,args,some (t,w),fl⟩ K KP ⟨env,m⟩)(a:b=false->dO C base ⟨d,op,args,some (t,w),fl⟩ K KP ⟨env,m⟩):
  dO C base ⟨d,op,args,some (t,w),fl⟩ K KP ⟨env,m⟩:=by cases b;exact a rfl;exact h1 rfl
def aP {x y:aA}(hb:look env t= .d (.bool b))(h1:b=true->pwp C nb na (.cond (.t t) x y) Q ⟨env,m⟩)(a:b=false->pwp C nb na (.cond (.t t) x y) Q ⟨env,m⟩):
  pwp C nb na (.cond (.t t) x y) Q ⟨env,m⟩:=by cases b;exact a rfl;exact h1 rfl
variable {s:St}{bs:List (Option (List PV))}{fz:List Nat}{ass:List (Option Arr)}
def upJ {α:Type}(len:Nat)(E:Nat->α->St)(P:Nat->α->Prop):Nat->St->Prop:=fun n s=>∃i a,i<=len/\n=len - i/\s=E i a/\P i a
variable{b:aA}
def aG {α:Type}(len:Nat)(E:Nat->α->St)(P:Nat->α->Prop)(c:Nat)(d:α)(hi:c<=len)(hs:s=E c d)(f:P c d)
  (j:∀i a,i<len->P i a->pwp C nb na b (KL nb na (upJ len E P) (len - i) Q) (E i a))
  (g:∀a,P len a->pwp C nb na b (KL nb na (upJ len E P) 0 Q) (E len a)):pwp C nb na (.loop b) Q s:=by
 refine AB (upJ len E P) (len - c) ⟨c,d,hi,rfl,hs,f⟩ ?_;rintro n s ⟨i,a,hi,rfl,rfl,e⟩
 by_cases h:i<len
 ·exact j i a h e
 ·obtain rfl:i=len:=by omega
  have:=g a e
  rwa [<-Nat.sub_self i]at this
variable{len i:Nat}
def dX {α:Type}{E:Nat->α->St}{P:Nat->α->Prop}(d:α)(hi:i<len)(hs:(⟨env,⟨bs,fz.filter (fun b=>decide (b<bs.length)),ass⟩⟩:St)=E (i+1) d)(h:P (i+1) d)
  (h1:nb<=bs.length)(h2:na<=ass.length)(f:(env.all fun p=>p.2.upto bs.length ass.length)=true)(g:(bs.all fun c=>(c.getD []).all fun p=>p.upto bs.length ass.length)=true):
  ∃e a,e<len - i/\Weak nb na ⟨env,⟨bs,fz,ass⟩⟩ a/\upJ len E P e a:=⟨len - (i+1),_,by omega,Weak.same h1 h2 f g,i+1,d,by omega,rfl,hs,h⟩
def bK {α:Type}{E:Nat->α->St}{P:Nat->α->Prop}(n m:Nat)(d:α)(hi:i<len)(hs:(⟨env,⟨bs.take n,fz.filter (fun b=>decide (b<n)),ass.take m⟩⟩:St)=E (i+1) d)(h:P (i+1) d)
  (h1:nb<=n)(h2:na<=m)(f:(env.all fun p=>p.2.upto n m)=true)(g:((bs.take n).all fun c=>(c.getD []).all fun p=>p.upto n m)=true):
  ∃e a,e<len - i/\Weak nb na ⟨env,⟨bs,fz,ass⟩⟩ a/\upJ len E P e a:=⟨len - (i+1),_,by omega,Weak.take h1 h2 f g,i+1,d,by omega,rfl,hs,h⟩
def whJ {α:Type}(E:α->St)(P:α->Prop)(μ:α->Nat):Nat->St->Prop:=fun n s=>∃a,n=μ a/\s=E a/\P a
def qM {α:Type}(E:α->St)(P:α->Prop)(μ:α->Nat)(c:α)(hs:s=E c)(d:P c)
  (f:∀a,P a->pwp C nb na b (KL nb na (whJ E P μ) (μ a) Q) (E a)):pwp C nb na (.loop b) Q s:=by
 refine AB (whJ E P μ) (μ c) ⟨c,rfl,hs,d⟩ ?_;rintro n s ⟨a,rfl,rfl,e⟩;exact f a e
def ZF {α:Type}{a:α}{E:α->St}{P:α->Prop}{μ:α->Nat}(d:α)(j:μ d<μ a)(hs:(⟨env,⟨bs,fz.filter (fun b=>decide (b<bs.length)),ass⟩⟩:St)=E d)(i:P d)
  (h1:nb<=bs.length)(h2:na<=ass.length)(g:(env.all fun p=>p.2.upto bs.length ass.length)=true)(h:(bs.all fun c=>(c.getD []).all fun p=>p.upto bs.length ass.length)=true):
  ∃f e,f<μ a/\Weak nb na ⟨env,⟨bs,fz,ass⟩⟩ e/\whJ E P μ f e:=⟨μ d,_,j,Weak.same h1 h2 g h,d,rfl,hs,i⟩
def ajf {α:Type}(o:Option α)(k:α->Prop):Prop:=match o with|some x=>k x|none=>False
def abq {α:Type}{x:α}{k:α->Prop}:ajf (some x) k=k x:=rfl
def acf (o:Option (List DV))(cs:List PV):PV:=match o with|some ds=> .d (.agg ds)|none=> .agg cs
def YF (o:Option (List DV))(cs:List PV):PV:=match o with|some ds=> .d (.tup ds)|none=> .tup cs
def agu {cs:List PV}:zW cs=acf (gU cs) cs:=rfl
def agx {cs:List PV}:Iu cs=YF (gU cs) cs:=rfl
def ZL {ds:List DV}{cs:List PV}:acf (some ds) cs= .d (.agg ds):=rfl
def abS {ds:List DV}{cs:List PV}:YF (some ds) cs= .d (.tup ds):=rfl
section
variable {M:Mem}{L:PV->Mem->Prop}
def aaK {zs:List DV}{ps:List (Nat×Nat)}{args:List PV}:ak C base (.build zs ps) args M L KP=ajf (jm (zs.map .d) ps args) (fun cs=>L (zW cs) M):=by
 rw[ac0];cases jm (zs.map .d) ps args<;>rfl
def aaR {cs:List PV}:jm cs [] []=some cs:=rfl
def EO {cs:List PV}{off n:Nat}{ps:List (Nat×Nat)}{x:DV}{vs:List PV}:jm cs ((off,n)::ps) (.d x::vs)=bif (PV.cells (.d x)).length==n&&decide (off+n<=cs.length)then jm (splice cs off (PV.cells (.d x))) ps vs else none:=by
 simp only[jm,PV.mP,true_and]
 by_cases h1:(PV.cells (.d x)).length=n
 ·by_cases h2:off+n<=cs.length
  ·rw[if_pos ⟨h1,h2⟩];simp[h1,h2]
  ·rw[if_neg (fun h=>h2 h.2)];simp[h1,h2]
 ·rw[if_neg (fun h=>h1 h.1)]
  have:((PV.cells (.d x)).length==n)=false:=by simpa using h1
  rw[this];rfl
def afD {i:Nat}{vs:List DV}:ak C base (.ext i) [.d (.tup vs)] M L KP=ajf vs[i]? (fun v=>L (.d v) M):=by
 simp only[ak];cases vs[i]?<;>rfl
end
def O4 {C:Ctx}(s:C.P.follows .mixedOrders=true){f:FuncId}{ds:List DV}{x:DV}{pc:aA}{rs:List iw}{a:Nat}(t:(ds.map PV.d).length=a)(hc:zL C.P f a pc rs=true)
  (h:pwp C 0 0 pc (LG rs (fun p M=>datum M p=some x) (fun _ _=>False)) ⟨qw 0 (ds.map .d),bg⟩):Pure C f ds (.d x) []:=by
 have j:SC C f (ds.map .d) bg (fun p M=>datum M p=some x) (fun _ _=>False):=AL s t hc h;intro X w g n r z y;refine(j X w ⟨[],[]⟩ g (AO n r z) (aK.ofD (y.weaken ql))).mono fun e w' i=> ?_
 cases e with
 |returned v=>
  obtain⟨p,M',E',hd,h2,l,m⟩:=i;have k:uP M' []:=⟨fun q u=>(by cases u),cj⟩
  exact⟨v,_,rfl,Jh h2 k,DI l k, .d ((je (ps:=[p]) h2 m hd (by simp)).weaken fun b o=> .inl (ql b o))⟩
 |panicked c=>
  obtain⟨v,d,M',E',_,hh,_⟩:=i;exact hh.elim
 |outgrown=>exact i.elim
def aaB {bs:List (Option (List PV))}{fz:List Nat}{ass:List (Option Arr)}{k ver skip:Nat}{A:Arr}(h:ass[k]?=some (some A))(hv:A.ver=ver):datum ⟨bs,fz,ass⟩ (.tsl k ver skip)=some (.slice false (A.elems.drop skip)):=by
 simp[datum,Lh,h,hv]
def Uc {f:Fn}{a b:List DV}:PV.cells (.d (.func f a b))=[.d (.func f a b)]:=rfl
def agl {cs:List DV}:PV.isAgg (.d (.agg cs))=true:=rfl
def rng {i len:Nat}(h:i<len)(hl:len<=1000000):(i:Int)<(len:Int)/\(0:Int)<=(i:Int)/\cw .i64 ((i:Int)+1)=((i+1:Nat):Int):=by
 refine⟨by omega,by omega,?_⟩;rw[Go.IntWalk.i64_in _ (by omega)];omega
end
def agS {k:Nat}:qw k []=[]:=by rw[qw]
def agT {k:Nat}{v:PV}{vs:List PV}:qw k (v::vs)=(k,v)::qw (k+1) vs:=by rw[qw]
def agO {rs:List iw}{K:PV->Mem->Prop}{KP:DV->Mem->Prop}{s:St}:LG rs K KP .normal s=ny rs s (fun vs=>K (resV vs) s.mem):=px
def agP {rs:List iw}{K:PV->Mem->Prop}{KP:DV->Mem->Prop}{s:St}:LG rs K KP .ret s=ny rs s (fun vs=>K (resV vs) s.mem):=px
def agQ {rs:List iw}{K:PV->Mem->Prop}{KP:DV->Mem->Prop}{s:St}{d:DV}:LG rs K KP (.panic d) s=KP d s.mem:=px
def agR {rs:List iw}{K:PV->Mem->Prop}{KP:DV->Mem->Prop}{s:St}{i:Nat}:LG rs K KP (.exit i) s=False:=px
def agU {s:St}{K:List PV->Prop}:ny [] s K=K []:=px
def agV {s:St}{K:List PV->Prop}{t:Nat}{l:List iw}:ny (.tmp t::l) s K=ny l s (fun vs=>K (look s.env t::vs)):=px
def agW {s:St}{K:List PV->Prop}{t n:Nat}{g:Bool}{l:List iw}:ny (.cell t g n::l) s K=bP g n (look s.env t) s.mem (fun v=>ny l s fun vs=>K (v::vs)):=px
def akA:resV []=Iu []:=by rw[resV];intro x h;cases h
def akB {x:PV}:resV [x]=x:=by rw[resV]
def akC {x y:PV}{l:List PV}:resV (x::y::l)=Iu (x::y::l):=by rw[resV];intro x h;cases h
def abC {α:Type}{cs:List α}{off:Nat}{new:List α}:splice cs off new=cs.take off++new++cs.drop (off+new.length):=by rw[splice]
set_option linter.defProp false in
def RN:=Y (Y (Y (Y (Y (Y (Y (@aed) (Y (@abw) (@agJ))) (Y (@aec) (Y (@abx) (@agK)))) (Y (Y (@VT) (Y (@aeJ) (@abI))) (Y (Y (@Yx) (@abv)) (Y (@OJ) (@WL))))) (Y (Y (Y (@QU) (Y (@WJ) (@TR))) (Y (@RV) (Y (@abj) (@X9)))) (Y (Y (@U8) (Y (@Yn) (@Ym))) (Y (Y (@VG) (@VF)) (Y (@VH) (@NZ)))))) (Y (Y (Y (Y (@aaV) (Y (@U1) (@Rz))) (Y (@Yv) (Y (@VN) (@agX)))) (Y (Y (@aeD) (Y (@aeG) (@aeC))) (Y (Y (@aeF) (@aeE)) (Y (@agY) (@aii))))) (Y (Y (Y (@aij) (Y (@afR) (@afQ))) (Y (@aik) (Y (@afS) (@akn)))) (Y (Y (@aeb) (Y (@aea) (@adO))) (Y (Y (@abh) (@akJ)) (Y (@akI) (@aia))))))) (Y (Y (Y (Y (Y (@Un) (Y (@aaJ) (@afN))) (Y (@acY) (Y (@ah7) (@afK)))) (Y (Y (@ac2) (Y (@ac5) (@Xv))) (Y (Y (@Xu) (@ah6)) (Y (@afA) (@ajE))))) (Y (Y (Y (@ac1) (Y (@ac4) (@dV))) (Y (@afC) (Y (@ah8) (@afE)))) (Y (Y (@afF) (Y (@afG) (@afB))) (Y (Y (@ah5) (@ah9)) (Y (@afJ) (@afI)))))) (Y (Y (Y (Y (@aaL) (Y (@Us) (@Uo))) (Y (@Ur) (Y (@Xq) (@Xp)))) (Y (Y (@Rl) (Y (@afq) (@af8))) (Y (Y (@agk) (@agf)) (Y (@agi) (@agj))))) (Y (Y (Y (@af9) (Y (@agh) (@agd))) (Y (Y (@agc) (@agb)) (Y (@aga) (@ajp)))) (Y (Y (@ajq) (Y (@ai4) (@ajH))) (Y (Y (@ajI) (@ai0)) (Y (@aks) (@adK)))))))) (Y (Y (Y (Y (Y (Y (@agp) (Y (@aa9) (@adJ))) (Y (@Xc) (Y (@Xd) (@Ua)))) (Y (Y (@QZ) (Y (@Xe) (@Uc))) (Y (Y (@agl) (@afH)) (Y (@GH) (@gZ))))) (Y (Y (Y (@adA) (Y (@agu) (@agx))) (Y (@ZL) (Y (@abS) (@abq)))) (Y (Y (@aaK) (Y (@aaR) (@EO))) (Y (Y (@afD) (@ac3)) (Y (@akz) (@agC)))))) (Y (Y (Y (Y (@ad1) (Y (@agE) (@abo))) (Y (@agD) (Y (@adU) (@agt)))) (Y (Y (@abb) (Y (@aeX) (@YC))) (Y (Y (@ai2) (@adL)) (Y (@af7) (@adz))))) (Y (Y (Y (@agr) (Y (@abe) (@ain))) (Y (Y (@adb) (@ahO)) (Y (@acp) (@TG)))) (Y (Y (@afV) (Y (@air) (@aiq))) (Y (Y (@ach) (@ZM)) (Y (@Option.map_some.{0,0}) (@List.mem_cons.{0}))))))) (Y (Y (Y (Y (Y (@List.not_mem_nil.{0}) (Y (@or_false) (@or_self))) (Y (@not_false_eq_true) (Y (@ne_eq.{1}) (@decide_true)))) (Y (Y (@decide_false) (Y (@cond_true.{1}) (@cond_false.{1}))) (Y (Y (@Bool.not_true) (@Bool.not_false)) (Y (@Nat.zero_add) (@Nat.add_zero))))) (Y (Y (Y (@List.map_cons.{0,0}) (Y (@List.map_nil.{0,0}) (@List.cons_append.{0}))) (Y (@List.nil_append.{0}) (Y (@List.append_nil.{0}) (@List.length_cons.{0})))) (Y (Y (@List.length_nil.{0}) (Y (@List.replicate_succ.{0}) (@List.replicate_zero.{0}))) (Y (Y (@List.all_cons.{0}) (@List.all_nil.{0})) (Y (@Bool.and_true) (@Bool.true_and)))))) (Y (Y (Y (Y (@Bool.and_self) (Y (@true_and) (@and_true))) (Y (@true_implies) (Y (@List.set_cons_zero.{0}) (@List.set_cons_succ.{0})))) (Y (Y (@List.getElem?_cons_zero.{0}) (Y (@List.getElem?_cons_succ.{0}) (@List.drop_succ_cons.{0}))) (Y (Y (@List.drop_zero.{0}) (@List.take_succ_cons.{0})) (Y (@List.take_zero.{0}) (@List.getD_cons_zero.{0}))))) (Y (Y (Y (@List.getD_cons_succ.{0}) (Y (@agS) (@agT))) (Y (Y (@agO) (@agP)) (Y (@agQ) (@agR)))) (Y (Y (@agU) (Y (@agV) (@agW))) (Y (Y (@akA) (@akB)) (Y (@akC) (@abC))))))))
def Mem.ext (M:Mem)(xb:List (Option (List PV)))(xf:List Nat)(xa:List (Option Arr)):Mem:=⟨M.boxes++xb,xf++M.fz,M.aB++xa⟩
section
variable {C:Ctx}{base:Nat}
variable{args:List PV}{M:Mem}{K:PV->Mem->Prop}{KP KP':DV->Mem->Prop}
def SC.kL {f:FuncId}(h:SC C f args M K KP)(m:∀d M,KP d M->KP' d M):SC C f args M K KP':=by
 intro X w E a l k;refine(h X w E a l k).mono fun e w' b=> ?_
 cases e with
 |returned v=>exact b
 |panicked c=>obtain⟨v,d,M',E',g,i,j⟩:=b;exact⟨v,d,M',E',g,m _ _ i,j⟩
 |outgrown=>exact b
def SY.kL {b:Nat}(h:SY C b args M K KP)(r:∀d M,KP d M->KP' d M):SY C b args M K KP':=by
 intro X w E i l p o q;obtain⟨fn,g,a,f,h1,h2⟩:=h X w E i l p o q;refine⟨fn,g,a,f,h1,h2.mono fun e w' j=> ?_⟩;cases e with
 |returned v=>exact j
 |panicked c=>obtain⟨v,d,M',E',k,m,n⟩:=j;exact⟨v,d,M',E',k,r _ _ m,n⟩
 |outgrown=>exact j
def Lm {op:POp}(b:∀d M',KP d M'->KP' d M')(h:ak C base op args M K KP):ak C base op args M K KP':=by
 cases op with
 |call f=>exact SC.kL h b
 |Hz f=>obtain⟨P,h1,h2,c⟩:=h;exact⟨P,SC.kL h1 b,h2,c⟩
 |Cb agg n f=>
  cases args with
  |nil=>exact h
  |cons a e=>
   simp only[ak]at h⊢;obtain⟨v,h1,h2⟩:=jo.1 h;exact jo.2 ⟨v,h1,SC.kL h2 b⟩
 |gJ=>
  simp only[ak]at h⊢
  split at h
  ·exact⟨h.1,h.2.kL b⟩
  ·exact⟨h.1,h.2.kL b⟩
  ·exact SY.kL h b
  ·exact h.elim
 |inv name=>
  simp only[ak]at h⊢
  split at h
  ·obtain⟨f,h1,h2,c⟩:=h
   exact⟨f,h1,h2,c.kL b⟩
  ·exact h.elim
 |panic=>
  simp only[ak]at h⊢
  split at h
  ·split at h
   ·exact b _ _ h
   ·exact h.elim
  ·exact h.elim
 | _=>exact h
def VL {p:PO}{K a:St->Prop}(hk:∀s,K s->a s)(b:∀d M',KP d M'->KP' d M'){s:St}(h:dO C base p K KP s):dO C base p a KP' s:=by
 unfold dO at h⊢
 split at h
 ·exact⟨h.1,Lm b (BN (fun v M' hh=>hk _ hh) h.2)⟩
 ·split at h
  ·exact⟨fun e=>⟨(h.1 e).1,Lm b (BN (fun v M' hh=>hk _ hh) (h.1 e).2)⟩,fun e=>hk _ (h.2 e)⟩
  ·exact hk _ h
  ·exact h.elim
def I9 {KP KP':DV->Mem->Prop}(c:∀d M',KP d M'->KP' d M'):∀{ps:List PO} {K b:St->Prop} (_:∀s,K s->b s) {s:St},uq C base ps K KP s->uq C base ps b KP' s
 | [],_,_,a,_,h=>a _ h
 | _::_,_,_,a,_,h=>VL (fun _ h=>I9 c a h) c h
def Nk {K a:St->Prop}(hk:∀s,K s->a s):∀{ts:List Nat} {s:St},qW ts K s->qW ts a s
 | [],_,h=>hk _ h
 |t::ts,s,h=>by
  simp only[qW]at h⊢
  split at h
  ·exact Nk hk h
  ·exact h.elim
def ng {nb na:Nat}:∀{pc:aA} {Q l:Ex->St->Prop} (_:∀e s,Q e s->l e s) {s:St},pwp C nb na pc Q s->pwp C nb na pc l s
 | .skip,_,_,i,_,h=>i _ _ h
 | .label _,_,_,i,_,h=>i _ _ h
 | .exit _,_,_,i,_,h=>i _ _ h
 | .ret,_,_,i,_,h=>i _ _ h
 | .region _ _ _ _ _,_,_,i,_,h=>by
  simp only[pwp]at h⊢;exact I9 (fun d M' h=>i _ _ h) (fun s h=>Nk (fun s h=>i _ _ h) h) h
 | .seq a b,_,_,i,_,h=>by
  simp only[pwp]at h⊢;refine ng (fun e s h=> ?_) h;cases e with
  |normal=>exact ng i h
  |exit id=>exact i _ _ h
  |ret=>exact i _ _ h
  |panic d=>exact i _ _ h
 | .cond c a b,_,_,i,_,h=>by
  simp only[pwp]at h⊢
  split at h
  ·exact⟨fun e=>ng i (h.1 e),fun e=>ng i (h.2 e)⟩
  ·exact h.elim
 | .block id b,_,_,i,_,h=>by
  simp only[pwp]at h⊢;refine ng (fun e s h=> ?_) h;cases e with
  |normal=>exact i _ _ h
  |exit z=>
   simp only at h⊢
   split at h
   ·rename_i hid;rw[if_pos hid];exact i _ _ h
   ·rename_i hid;rw[if_neg hid];exact i _ _ h
  |ret=>exact i _ _ h
  |panic d=>exact i _ _ h
 | .loop b,_,_,i,_,h=>by
  simp only[pwp]at h⊢;obtain⟨I,n,q,x⟩:=h;refine⟨I,n,q,fun k s y=>ng (fun e s h=> ?_) (x k s y)⟩;cases e with
  |normal=>exact h
  |exit id=>exact i _ _ h
  |ret=>exact i _ _ h
  |panic d=>exact i _ _ h
 | .scope b,_,_,i,_,h=>by
  simp only[pwp]at h⊢;exact ng i h
 | .rM f ps o p m,_,_,i,_,h=>by
  simp only[pwp]at h⊢;obtain⟨g,fs,cs,h1,h2,r,t⟩:=h;refine⟨g,fs,cs,h1,h2,r,fun L u kV=>SC.kL (SC.mono (t L u kV) fun v M w=> ?_) fun d M h=>i _ _ h⟩;obtain⟨st,A,cells,B,D,E,j⟩:=w;refine⟨st,A,cells,B,D,E,?_⟩
  split at j
  ·exact i _ _ j
  ·exact i _ _ j
  ·exact i _ _ j
  ·exact j.elim
end
section
variable {C:Ctx}{nb na:Nat}{Q:Ex->St->Prop}
def RU {M:Mem}{L:Loop}{st:LoopState}{a:Option Code}{cells:List PV}{xb:List (Option (List PV))}{xf:List Nat}{xa:List (Option Arr)}:(fV M L st a cells xb xf xa).boxes[M.boxes.length]?=some (some (.fP {L with state:=st,pending:=a}::cells)):=by simp[fV]
end
def zO {C:Ctx}{base b:Nat}{args:List PV}{M:Mem}{K:PV->Mem->Prop}{KP:DV->Mem->Prop}(h:SY C b args M K KP):ak C base .gJ (.nM b::args) M K KP:=h
def Nv (f:FuncId)(te d:Nat):List Oper->Bool
 | [a,b]=>a.guard.isNone&&b.guard.isNone&&a.dst==some d&&b.dst.isNone&&
  (match a.op with| .makeFunc (.func g) h e=>g==f&&h.isEmpty&&(match e.toList with| [.tmp t]=>t==te| _=>false)| _=>false)&&
  (match b.op with| .defer c=>(match c.callee with| .value (.tmp t)=>t==d| _=>false)&&c.args.isEmpty| _=>false)
 | _=>false
def Ik (a:Nat):List Oper->Bool
 | [o]=>o.guard.isNone&&o.dst==some a&&(match o.op with| .call c=>(match c.callee with| .builtin .recover=>true| _=>false)&&c.args.isEmpty| _=>false)
 | _=>false
def MJ (P:Program)(f h:FuncId)(b n g te j k:Nat)(c d e:aA):Bool:=
 match P.funcs[f]?,P.funcs[h]? with
 |some fn,some a=>match fn.body,a.body with
  |some (.seq m (.seq (.region _ i false) l)),some (.seq (.region _ ad4 false) o)=>
   fn.ntmps==n&&a.ntmps==g&&decide (b<=n)&&decide (1<=g)&&decide (j<n)&&decide (k<g)&&decide (1<=k)&&decide (te≠j)&&chk P n m c&&chk P n l d&&chk P g o e&&fH e&&KN P fn.results.toList [.cell te false 1]&&a.results.isEmpty&&
    callable P h&&DU te l&&Nv h te j i.toList&&Ik k ad4.toList&&BA c&&BA d
  | _,_=>false
 | _,_=>false
section
variable {C:Ctx}
def Rep.Sm {w w':World}{O O':Nat->Prop}{M:Mem}{E:Emb}{v:Value}{b o:Nat}(h:Rep w O M E v (.ptr b o)):Rep w' O' M E v (.ptr b o):=by
 cases h with|ptr c a d=>exact .ptr c a d
def BX (te:Nat)(b:Nat)(K:PV->Mem->Prop)(e:Ex)(s:St):Prop:=
 match e with
 | .normal=>bP false 1 (.ptr b 0) s.mem fun v=>K v s.mem
 | .ret=>bP false 1 (.ptr b 0) s.mem fun v=>K v s.mem
 | _=>False
def ajo (C:Ctx)(te c:Nat)(a:aA)(b:Nat)(K:PV->Mem->Prop)(e:Ex)(s:St):Prop:=
 match e with
 | .normal=>pwp C s.mem.boxes.length s.mem.aB.length a (BX te b K) ⟨[(0, .ptr b 0),(c, .d .nilIface)],s.mem⟩
 | .ret=>pwp C s.mem.boxes.length s.mem.aB.length a (BX te b K) ⟨[(0, .ptr b 0),(c, .d .nilIface)],s.mem⟩
 | .panic d=>pwp C s.mem.boxes.length s.mem.aB.length a (BX te b K) ⟨[(0, .ptr b 0),(c, .d d)],s.mem⟩
 | .exit _=>False
def YE (hm:C.P.follows .mixedOrders=true){f f1:FuncId}{n n1 te t3 t5:Nat}{bj bk aq:aA}{args:List PV}{M:Mem}{K:PV->Mem->Prop}{KP:DV->Mem->Prop}(hc:MJ C.P f f1 args.length n n1 te t3 t5 bj bk aq=true)
  (h:pwp C M.boxes.length M.aB.length bj (fun e s=>e= .normal/\∃b,look s.env te= .ptr b 0/\pwp C s.mem.boxes.length s.mem.aB.length bk (ajo C te t5 aq b K) ⟨(t3, .dead)::s.env,s.mem⟩) ⟨qw 0 args,M⟩):SC C f args M K KP:=by
 unfold MJ at hc
 split at hc
 case h_2=>cases hc
 rename_i fn ab b9 ak5
 split at hc
 case h_2=>cases hc
 rename_i c0 id bi c2 cJ ad4 c3 a7 aiD
 simp only[Z,beq_iff_eq,decide_eq_true_eq]at hc;obtain⟨⟨⟨⟨⟨⟨⟨⟨⟨⟨⟨⟨⟨⟨⟨⟨⟨⟨⟨hn,cG⟩,cH⟩,als⟩,ct⟩,cv⟩,alu⟩,cw⟩,b1⟩,b2⟩,b3⟩,bL⟩,bR⟩,ake⟩,a9⟩,cm⟩,ae⟩,ap⟩,ald⟩,ale⟩:=hc;intro X w E x hS hA;have cI:x.length=args.length:=hA.length;have hi:InS C X ⟨w.heap.size,[],false,none⟩ n ⟨qw 0 args,M⟩ {tmps:=x.toArray++bB (fn.ntmps - x.toArray.size) undef,defers:=[]} w E:=
  {sim:=hS
   size:=by simp;omega
   defers:=BF
   fix:=fun _ h=>by cases h
   env:=fun t=>by
    simp only[GX,Nat.not_lt_zero,if_false,cq];cases ht:args[t]? with
    |none=>exact .dead
    |some p=>
     obtain⟨v,hv,hr⟩:=hA.get' t p ht;have ck:t<x.length:=(av.1 hv).1;have:({tmps:=x.toArray++bB (fn.ntmps - x.toArray.size) undef,defers:=[]}:Act).eval (.tmp t)=v:=by
      simp only[Act.eval,bt];rw[a8 (by simpa using ck)];simp[hv]
     rw[this];exact hr}
 have aL:∀b,C.low b->b<w.heap.size:=fun b hb=>hS.xlt b (hS.gG b hb)
 refine(callsIn_wide (n:=0)).1 (callsIn_of_wp_marks (F:=Fence.wide) b9 a7 trivial ?_);refine wpIn_seq (F:=RF none) (wpIn_mono (zB hm c0 bj (am _) (am _) ald none [] false none _ _ _ w E (fun _ h=>by cases h) (.inl rfl) (fun e=>by cases e) b1 h hi (.refl _ _ _)) fun e i N U=> ?_);cases e with
 |exit id=>obtain⟨_,_,_,_,⟨B,_⟩,_⟩:=U;cases B
 |ret=>obtain⟨_,_,_,_,⟨B,_⟩,_⟩:=U;cases B
 |panic ch=>obtain⟨_,_,_,_,_,_,_,⟨B,_⟩,_⟩:=U;cases B
 |goto l=>exact U.elim
 |outgrown=>exact U.elim
 |normal=>
  obtain⟨X1,s1,E1,cD,⟨_,b,alm,cn⟩,I,br⟩:=U;have aa1:=I.env te;rw[alm]at aa1;obtain⟨c,ac⟩:∃c,i.eval (.tmp te)= .pointer (some ⟨c,0,none⟩):=by
   generalize i.eval (.tmp te)=v at aa1;cases aa1 with
   |ptr hl hb ho=>exact⟨_,rfl⟩
  rw[ac]at aa1;unfold Nv at ae
  split at ae
  case h_2=>cases ae
  rename_i o1 o2 aM
  simp only[Z,beq_iff_eq,bv]at ae;obtain⟨⟨⟨⟨⟨cb,cc⟩,b5⟩,b6⟩,az⟩,aD⟩:=ae;obtain⟨bi,rfl⟩:∃l:List Oper,bi=l.toArray:=⟨bi.toList,by simp⟩
  simp only at aM;subst aM
  split at az
  case h_2=>cases az
  rename_i g fi ca bz
  simp only[Z,beq_iff_eq,bw]at az;obtain⟨⟨rfl,rfl⟩,S⟩:=az
  split at S
  case h_2=>cases S
  rename_i t ajS
  simp only[beq_iff_eq]at S;have S:=S.symm;subst S;obtain⟨ca,rfl⟩:∃l:List Operand,ca=l.toArray:=⟨ca.toList,by simp⟩
  simp only at ajS;subst ajS
  split at aD
  case h_2=>cases aD
  rename_i cl bE
  simp only[Z,bw]at aD;obtain⟨LV,aiG⟩:=aD
  split at LV
  case h_2=>cases LV
  rename_i R ajT
  simp only[beq_iff_eq]at LV;subst LV;obtain⟨D1,a5⟩:∃D1:Deferred,D1={target:= .fn (.func g) #[.pointer (some ⟨c,0,none⟩)],args:= #[]}:=⟨_,rfl⟩
  obtain⟨cK,aj6,aj1,_⟩:=I.defers;rw[bq]at aj6;have be:(execOp i.eval o1).run C.P N= .ok (.value (.func (.func g) #[] #[.pointer (some ⟨c,0,none⟩)])) N:=by simp[execOp,bz,Instr.makeFunc,ac]
  have b8:(i.put (some R) (.func (.func g) #[] #[.pointer (some ⟨c,0,none⟩)])).eval (.tmp R)= .func (.func g) #[] #[.pointer (some ⟨c,0,none⟩)]:=by
   rw[qx,if_pos ⟨rfl,by rw[I.size];exact ct⟩]
  have bh:(execOp (i.put (some R) (.func (.func g) #[] #[.pointer (some ⟨c,0,none⟩)])).eval o2).run C.P N= .ok (.defer D1) N:=by
   simp[execOp,bE,resolve,ajT,aiG,b8,Deferred.ofValue,a5]
  refine wpIn_seq (F:=RF none) (wpIn_region (F:=RF none) ?_)
  show wpOpsIn (RF none) 0 C.P [o1,o2].toArray _ [0,1] i N
  have cA:Region.wanted o1 (yielded [o1,o2].toArray i.tmps)=true:=by simp[Region.wanted,cb]
  have cB:∀a:Act,Region.wanted o2 (yielded [o1,o2].toArray a.tmps)=true:=fun a=>by simp[Region.wanted,cc]
  simp only[wpOpsIn,bN,bA,List.getElem?_cons_succ,cA,cB,if_true];refine⟨fun _ _=>trivial,?_⟩;rw[show Oper.semAt (RF none).round i.eval o1=execOp i.eval o1 from rfl,be];simp only[Oper.uponIn_value,b5];refine⟨fun _ _=>trivial,?_⟩;rw[show Oper.semAt (RF none).round (i.put (some R) (.func (.func g) #[] #[.pointer (some ⟨c,0,none⟩)])).eval o2=execOp (i.put (some R) (.func (.func g) #[] #[.pointer (some ⟨c,0,none⟩)])).eval o2 from rfl,bh];simp only[Oper.uponIn_defer,b6]
  show(Code.wpIn (RF none) 0 C.P c2 (bodyPostM (RF none) 0 C.P fn fun e w'=>Fin C X w M E K KP w' e)) {i.put (some R) (.func (.func g) #[] #[.pointer (some ⟨c,0,none⟩)])with defers:=D1::i.defers} N
  have cf:InS C X1 ⟨N.heap.size,D1::i.defers,false,some (te, .pointer (some ⟨c,0,none⟩))⟩ n ⟨(R, .dead)::s1.env,s1.mem⟩ {i.put (some R) (.func (.func g) #[] #[.pointer (some ⟨c,0,none⟩)])with defers:=D1::i.defers} N E1:=
   {sim:=I.sim
    size:=by simp[Act.put,I.size]
    defers:=BF
    fix:=fun q hq=>by
     cases hq
     show(i.put (some R) _).eval (.tmp te)=_
     rw[qx,if_neg fun hh=>cw hh.1];exact ac
    env:=fun t=>by
     show Rep _ _ _ _ ((i.put (some R) _).eval (.tmp t)) _
     rw[qx];simp only[look]
     by_cases ht:R=t
     ·subst ht;simp only[beq_self_eq_true,cond_true];exact .dead
     ·have h1:(R==t)=false:=by simp[ht]
      have h2:¬(t=R/\R<i.tmps.size):=fun hh=>ht hh.1.symm
      simp only[h1,cond_false,if_neg h2];exact I.env t}
  refine wpIn_mono (F:=RF none) (zB hm c2 bk (am _) (am _) ale none (D1::i.defers) false (some (te, .pointer (some ⟨c,0,none⟩))) _ _ _ N E1 (fun q hq=>by cases hq;exact cm) (.inl rfl) (fun e=>by cases e) b2 cn cf (.refl _ _ _)) fun e a2 w2 U=> ?_
  have hD:∀(u u':FrameMode) (X2:Nat->Prop) (j:World) (o:Mem) (m:Emb) (d:DV) (v:Value),u≠ .run->(∀b,X1 b->X2 b)->Sim C X2 j o m->From N s1.mem E1 j o m->bF j (away X2 o m) v d->okM w.heap.size X2 i.defers j->
    (∀(O:Frame) (cs:List Frame),O.mode=u->(∃z,(recoverD (O::cs)=some (v,z)/\z={O with mode:=u'}::cs))\/(recoverD (O::cs)=none/\v= .nilIface/\u'=u))->settle u'= .returning->
    pwp C o.boxes.length o.aB.length aq (BX te b K) ⟨[(0, .ptr b 0),(t5, .d d)],o⟩->
    ∀Jm:Array Value,(Jm.getD te undef= .pointer (some ⟨c,0,none⟩))->LeavesInM Fence.wide 0 C.P fn Jm (fun e w'=>Fin C X w M E K KP w' e) (D1::i.defers) u j:=by
   intro u u' X2 j o m d v hu k aw a6 bc LH bO bS adt Jm cz;have akQ:From w M E j o m:=br.trans a6;refine⟨hu, .inr ⟨fun h=>by simp[Fence.wide]at h, .func g, #[.pointer (some ⟨c,0,none⟩)],g, #[.pointer (some ⟨c,0,none⟩)],by rw[a5],by rw[a5];simp[invoke,rX a9],fun _ _=>trivial,?_⟩⟩;refine callsDIn_of_wpSIn (F:=Fence.wide) ak5 aiD trivial fun O cs ao=> ?_
   unfold Ik at ap
   split at ap
   case h_2=>cases ap
   rename_i r ahp
   simp only[Z,beq_iff_eq,bv]at ap;obtain⟨⟨ce,bp⟩,aE⟩:=ap;obtain⟨ad4,rfl⟩:∃l:List Oper,ad4=l.toArray:=⟨ad4.toList,by simp⟩
   simp only at ahp;subst ahp
   split at aE
   case h_2=>cases aE
   rename_i clr alh
   simp only[Z,bw]at aE;obtain⟨bo,ajV⟩:=aE
   split at bo
   case h_2=>cases bo
   rename_i ahn
   have akf:∀a:Act,(execOp a.eval r).run C.P j= .ok .recover j:=fun a=>by
    obtain⟨cal,cE,cF⟩:=clr;simp only at ahn ajV;subst ahn ajV;simp[execOp,alh,resolve,invoke]
    rfl
   obtain⟨a3,ax⟩:∃a3:Act,a3={tmps:= #[.pointer (some ⟨c,0,none⟩)]++bB (ab.ntmps - #[Value.pointer (some ⟨c,0,none⟩)].size) undef,defers:=[]}:=⟨_,rfl⟩
   rw[<-ax];have aR:a3.tmps.size=n1:=by rw[ax];simp;omega
   have bl:∀z,z={O with mode:=u'}::cs->Code.wpSIn Fence.wide 0 C.P c3 (bodyPostS C.P ab O cs fun e u' w'=>match e with
     | .returned _=>LeavesInM Fence.wide 0 C.P fn Jm (fun e w'=>Fin C X w M E K KP w' e) i.defers (settle u') w'
     | .panicked chain=>LeavesInM Fence.wide 0 C.P fn Jm (fun e w'=>Fin C X w M E K KP w' e) i.defers (raised u' chain) w'
     | .outgrown=>Fin C X w M E K KP w' .outgrown) (a3.put (some t5) v) z j:=by
    rintro z rfl;refine wpSIn_of_wpIn rfl ?_;have cg:InS C X2 ⟨j.heap.size,[],true,none⟩ n1 ⟨[(0, .ptr b 0),(t5, .d d)],o⟩ (a3.put (some t5) v) j m:=
     {sim:=aw
      size:=by simp[Act.put,aR]
      fix:=fun _ h=>by cases h
      defers:=by
       have:(a3.put (some t5) v).defers=[]:=by rw[ax];rfl
       rw[this];exact BF
      env:=fun t=>by
       rw[qx,aR];simp only[look]
       by_cases bX:0=t
       ·subst bX
        have:¬(0=t5/\t5<n1):=fun hh=>by omega
        rw[if_neg this];simp only[beq_self_eq_true,cond_true];have e0:a3.eval (.tmp 0)= .pointer (some ⟨c,0,none⟩):=by
         rw[ax];simp only[Act.eval,bt];rw[a8 (by simp)]
         rfl
        rw[e0];exact(aa1.from a6).Sm
       ·have h0:(0==t)=false:=by simp[bX]
        simp only[h0,cond_false]
        by_cases aki:t5=t
        ·subst aki
         rw[if_pos ⟨rfl,cv⟩];simp only[beq_self_eq_true,cond_true];exact .d bc
        ·have h5:(t5==t)=false:=by simp[aki]
         simp only[h5,cond_false];exact .dead}
    have:=zB hm c3 aq (nb:=o.boxes.length) (na:=o.aB.length) (M₀:=o) (E₀:=m) (w₀:=j) (am _) (am _) (jO bL) none [] true none _ _ _ j m (fun _ h=>by cases h) (.inl rfl) (fun _=>bL) b3 adt cg (.refl _ _ _);refine wpIn_mono (F:=RF none) this fun e a4 w4 V=> ?_
    have a0:∀(X4:Nat->Prop) (L:St) (E4:Emb),(∀b,X2 b->X4 b)->BX te b K .normal L->InS C X4 ⟨j.heap.size,[],true,none⟩ n1 L a4 w4 E4->From j o m w4 L.mem E4->
      a4.defers=[]/\∃u2,({O with mode:=u'}::cs:List Frame)={O with mode:=u2}::cs/\∃v,(results ab a4.tmps).run C.P w4= .ok v w4/\LeavesInM Fence.wide 0 C.P fn Jm (fun e w'=>Fin C X w M E K KP w' e) i.defers (settle u2) w4:=by
     intro X4 L E4 W A T H;obtain⟨cL,ak8,_,ak2⟩:=T.defers;have b7:a4.defers=[]:=by rw[ak8,ak2 rfl];rfl
     refine⟨b7,u',rfl,?_⟩;have cp:(results ab a4.tmps).run C.P w4= .ok (.tuple #[]) w4:=by
      rw[Oe];have:ab.results= #[]:=by simpa using ake
      rw[this];simp
     refine⟨_,cp,?_⟩;rw[bS];have aj2:okM w.heap.size X4 i.defers w4:=by
      refine⟨fun d hd=> ?_,LH.2⟩;obtain⟨D,Q,Y,q3,q4⟩:=LH.1 d hd;exact⟨D,Q,Y,W _ q3,H.keep _ _ (fun ho=>aw.G5 ho q3) q4⟩
     have b0:From w M E w4 L.mem E4:=akQ.trans H;rw[<-bq i.defers];refine nH (by simp) aj2 fun w5 y=> ?_
     obtain⟨Q,Y,q3⟩:=Eu T.sim aL b0 aj2 y;have akc:Rep w5 (away X4 L.mem E4) L.mem E4 (.pointer (some ⟨c,0,none⟩)) (.ptr b 0):=(((aa1.from a6).Sm (O':=away X2 o m) (w':=j)).from H).Sm;have cj:InS C X4 ⟨w5.heap.size,[],true,none⟩ Jm.size ⟨[(te, .ptr b 0)],L.mem⟩ {tmps:=Jm,defers:=[]} w5 E4:=
      {sim:=Q,size:=rfl,defers:=BF,fix:=fun _ h=>by cases h
       env:=fun t=>by
        simp only[look]
        by_cases ht:te=t
        ·subst ht;simp only[beq_self_eq_true,cond_true]
         have:({tmps:=Jm,defers:=[]}:Act).eval (.tmp te)= .pointer (some ⟨c,0,none⟩):=cz;rw[this];exact akc
        ·have h1:(te==t)=false:=by simp[ht]
         simp only[h1,cond_false];exact .dead}
     have cr:ny [.cell te false 1] ⟨[(te, .ptr b 0)],L.mem⟩ (fun vs=>K (resV vs) L.mem):=by
      simp only[ny,look,beq_self_eq_true,cond_true,resV];exact A
     obtain⟨v5,cM,g1,g2,g3⟩:=Gp cj bR cr;have bu:∀b,X b->X4 b:=fun b hb=>W b (k b (cD b hb))
     exact⟨v5,g1,_,L.mem,E4,g2,Q.less bu hS.gG,Y,g3.less bu⟩
    cases e with
    |normal=>
     obtain⟨X4,L,E4,W,A,T,H⟩:=V;exact a0 X4 L E4 W A T H
    |ret=>
     obtain⟨X4,L,E4,W,A,T,H⟩:=V;exact a0 X4 L E4 W A T H
    |exit id=>obtain⟨_,_,_,_,B,_⟩:=V;exact B.elim
    |panic ch=>obtain⟨_,_,_,_,_,_,_,B,_⟩:=V;exact B.elim
    |goto l=>exact V.elim
    |outgrown=>exact V.elim
   refine wpSIn_seq (wpSIn_region ?_)
   show wpOpsSIn Fence.wide 0 C.P [r].toArray _ [0] a3 (O::cs) j
   have cC:Region.wanted r (yielded [r].toArray a3.tmps)=true:=by simp[Region.wanted,ce]
   simp only[wpOpsSIn,bN,bA,cC,if_true,akf];refine⟨fun _ _=>trivial,?_⟩
   rcases bO O cs ao with⟨z,Q,Y⟩|⟨Q,Y,q3⟩
   ·rw[Q]
    simp only[bp];exact bl z Y
   ·rw[Q]
    simp only[bp];rw[<-Y];exact bl (O::cs) (by rw[q3,<-ao])
  have ai:∀b,C.low b->b<N.heap.size:=fun b hb=>by have:=aL b hb;have:=br.size;omega
  have an:∀(X2:Nat->Prop) (w2 j:World) (o:Mem) (m:Emb) (J:List Deferred),(∀b,X1 b->X2 b)->From N s1.mem E1 w2 o m->okM N.heap.size X2 J w2->Shut J w2 j->okM w.heap.size X2 i.defers j:=by
   intro X2 w2 j o m J k G LH y;rw[aj6];refine⟨fun d hd=> ?_,aj1.2⟩;obtain⟨D,Q,Y,q3,q4⟩:=aj1.1 d hd;refine⟨D,Q,Y,k _ q3,?_⟩;rw[y.keep D fun d' b4 B=> ?_]
   ·exact G.keep _ _ (fun ho=>I.sim.G5 ho q3) q4
   ·obtain⟨D',g1,g2,_,_⟩:=LH.1 d' b4
    rw[g1]at B
    injection B with B
    have:=bZ q4;omega
  have ret:∀(X2:Nat->Prop) (s2:St) (m:Emb),(∀b,X1 b->X2 b)->pwp C s2.mem.boxes.length s2.mem.aB.length aq (BX te b K) ⟨[(0, .ptr b 0),(t5, .d .nilIface)],s2.mem⟩->
    InS C X2 ⟨N.heap.size,D1::i.defers,false,some (te, .pointer (some ⟨c,0,none⟩))⟩ n s2 a2 w2 m->From N s1.mem E1 w2 s2.mem m->LeavesInM Fence.wide 0 C.P fn a2.tmps (fun e w'=>Fin C X w M E K KP w' e) a2.defers .returning w2:=by
   intro X2 s2 m k adt aiN G;obtain⟨J,aiR,LH,_⟩:=aiN.defers;rw[aiR];refine nH (by simp) LH fun j y=> ?_
   obtain⟨Q,Y,q3⟩:=Eu aiN.sim ai G LH y;refine hD .returning .returning X2 j s2.mem m .nilIface .nilIface (by simp) k Q Y .nilIface (an X2 w2 j s2.mem m J k G LH y) (fun O cs hm=> .inr ⟨by simp[recoverD,hm],rfl,rfl⟩) rfl adt _ ?_;exact aiN.fix _ rfl
  cases e with
  |normal=>obtain⟨X2,s2,m,k,h1,h2,h3⟩:=U;exact ret X2 s2 m k h1 h2 h3
  |ret=>obtain⟨X2,s2,m,k,h1,h2,h3⟩:=U;exact ret X2 s2 m k h1 h2 h3
  |exit id=>obtain⟨_,_,_,_,B,_⟩:=U;exact B.elim
  |goto l=>exact U.elim
  |outgrown=>exact U.elim
  |panic ch=>
   obtain⟨X2,v,d,o,m,k,rfl,adt,aw,G,bc,⟨J,aiR,LH,_⟩,bs⟩:=U
   show LeavesInM Fence.wide 0 C.P fn a2.tmps (fun e w'=>Fin C X w M E K KP w' e) a2.defers (.panicking [{v,recovered:=false}]) w2
   rw[aiR];refine nH (by simp) LH fun j y=> ?_
   obtain⟨Q,Y,q3⟩:=Eu aw ai G LH y;refine hD (.panicking [{v,recovered:=false}]) (.panicking [{v,recovered:=true}]) X2 j o m d v (by simp) k Q Y (bc.mono q3) (an X2 w2 j o m J k G LH y) (fun O cs hm=> .inl ⟨_,by simp[recoverD,hm],rfl⟩) rfl adt _ ?_;exact bs _ rfl
end
open Go.Sort
def DC:∀xs:List Int,flat (xs.map (DV.int .i64))=xs.map (DV.int .i64)
 | []=>rfl
 |x::xs=>by
  have:=DC xs;simp only[flat]at this⊢;simp only[ao,b5,this]
  rfl
def Ob {w:World}{O:Nat->Prop}:∀xs:List Int,aU w O (xs.map (Value.int .i64)) (xs.map (DV.int .i64))
 | []=> .nil
 |x::xs=> .cons (.int _ _) (Ob xs)
def BM {w:World}{O:Nat->Prop}:∀{vs:List Value} {xs:List Int},aU w O vs (xs.map (DV.int .i64))->vs=xs.map (Value.int .i64)
 | _,[], .nil=>rfl
 | _,x::xs, .cons h t=>by
  cases h;rw[BM t]
  rfl
section
variable {C:Ctx}
def ag2 {ρ:Go.Shelf.Ren}(M:Go.Proofs.Lays.n189 C.P ρ){k ver:Nat}{zs:List Int}{bs:List (Option (List PV))}{fz:List Nat}{ar:List (Option Arr)}{K:PV->Mem->Prop}{KP:DV->Mem->Prop}
  (h:ar[k]?=some (some ⟨1,zs.map (DV.int .i64),ver,1⟩))(hz:zs≠[])(hl:zs.length<4611686018427387904)
  (S:K (.d (.tup [])) ⟨bs,fz,ar.set k (some ⟨1,(zs.mergeSort fun x y=>decide (x<=y)).map (DV.int .i64),ver,1⟩)⟩):SC C (ρ.f 189) [.tsl k ver 0] ⟨bs,fz,ar⟩ K KP:=by
 intro X w E L J Q;cases Q with|cons V W=>
 cases W;cases V with|tsl B hh=>
 obtain⟨_,m⟩:=hh _ h;obtain⟨ac,i,z⟩:=m rfl;obtain⟨s1,s2,s3,s4⟩:=J.arr k _ h;obtain⟨q,F⟩:=s3 rfl;rw[F]at i;cases i;obtain⟨a,o,e⟩:=q;obtain⟨hX,vs,T,g2,N,g4,v⟩:=s4 a o e F;obtain⟨_,z⟩:=z
 rcases z with⟨I,U,_,_⟩|⟨O,_⟩
 case inr=>exact absurd (by simpa using O) hz
 cases U;simp only[ab,cv]at N v;rw[DC]at v;have g:=BM v;have R:Holds (Value.int .i64) w a o zs.toArray:=by
  intro j u;have c:j<zs.length:=by simpa using u
  have m:vs[o+j]?=some (.int .i64 zs[j]):=by
   have:=congrArg (fun l=>l[j]?) g;simp only[aD,c,if_true,bj,a6,a7,ae c,b9]at this;exact this
  refine⟨?_,?_⟩
  ·rw[cell_of_row w a (o+j) vs T.ty T.fr g2,m]
   simp[c]
  ·have B:o+j<vs.size:=(Array.getElem?_eq_some_iff.1 m).1
   obtain⟨ty,⟨f1,f2⟩,D⟩:=T;simp only at D g2;simp[World.frozen?,g2];intro hh;omega
 have p:a<w.heap.size:=bZ g2;simp only[ab,cq,cr,Nat.add_zero];refine(Go.Proofs.Any.slices_Sort_int M a o _ zs w R p hl).mono ?_;rintro en w' ⟨rfl,n,os,rfl⟩;generalize H:(zs.mergeSort fun x y=>decide (x<=y))=ss at*;have G:ss.length=zs.length:=by rw[<-H,List.length_mergeSort]
 have Y:Wrote a w (putRow (Value.int .i64) (Go.Sort.ahead w n) a o ss.toArray) (putCells (Value.int .i64) o ss.toArray vs).toList T.ty T.fr:=
  {os:=rfl
   tape:=rfl
   output:=rfl
   size:=by simp[putRow,mapBlock,Go.Sort.ahead]
   at_:=by simp[putRow,mapBlock,Go.Sort.ahead,bE,g2,onCells]
   keep:=fun b A=>by simp[putRow,mapBlock,Go.Sort.ahead,bE,Ne.symm A]}
 have s:((putCells (Value.int .i64) o ss.toArray vs).toList.drop o).take zs.length=ss.map (Value.int .i64):=by
  apply b4;intro j;rw[aD,bj,a6,a7]
  by_cases u:j<zs.length
  ·rw[if_pos u]
   have c:j<ss.length:=by omega
   have m:o+j<vs.size:=by omega
   simp[putCells,Array.getElem?_mapIdx,m,c]
  ·rw[if_neg u,bL (by omega)];rfl
 have t:=Hg (el:=ss.map (DV.int .i64)) J h rfl F g2 (by simp[G]) (by intro x Z;obtain⟨y,_,rfl⟩:=bo.1 Z;rfl) (by simp[putCells]) (by
  simp only[ab,cv];rw[DC,s];exact Ob ss) Y
 have r:Later (putRow (Value.int .i64) (Go.Sort.ahead w n) a o ss.toArray) (grow (putRow (Value.int .i64) (Go.Sort.ahead w n) a o ss.toArray) os):=
  ⟨rfl,rfl,rfl,by simp[grow],fun b A=>by simp only[grow];rw[a8 A]⟩
 exact⟨_,_,E,S,t.1.later r,t.2.trans (r.from _ _), .d (.tup .nil)⟩
end
section
variable {C:Ctx}
def Me {X:Nat->Prop}:∀b,away X bg ⟨[],[]⟩ b->X b:=by
 rintro b (h|⟨i,cs,h,_⟩|⟨k,A,o,e,h,_⟩)
 ·exact h
 ·simp[bg]at h
 ·simp[bg]at h
variable{f:FuncId}{ds:List DV}
def JX {Kr:DV->Prop}{Kp:DV->Prop}(h:SC C f (ds.map .d) bg (fun v M'=>∃x,datum M' v=some x/\Kr x.strip) (fun d _=>Kp d)){M:Mem}{K:PV->Mem->Prop}{KP:DV->Mem->Prop}
  (s:∀x,Kr x->K (.d x) M)(t:∀d,Kp d->KP d M):SC C f (ds.map .d) M K KP:=by
 intro X w E a i r;have k:∀b,C.low b->away X M E b:=fun b g=> .inl (i.gG b g)
 have q:∀b,away X M E b->b<w.heap.size:=fun b g=>i.wP g
 have n:aK w (away (away X M E) bg ⟨[],[]⟩) bg ⟨[],[]⟩ a (ds.map .d):=by
  refine aK.ofD ?_;have:aU w (away X M E) a ds:=aK.toL r;exact this.weaken Me
 refine(h (away X M E) w ⟨[],[]⟩ a (AO i.glob k q) n).mono fun e w' o=> ?_
 cases e with
 |returned v=>
  obtain⟨p,M',E',⟨x,hd,z⟩,h2,l,m⟩:=o;have j:=l.ET;refine⟨.d x.strip,M,E,s _ z,i.later j,j.from M E, .d ?_⟩;exact((je (ps:=[p]) h2 m hd (by simp)).weaken fun b g=> .inl g).strip
 |panicked c=>
  obtain⟨v,d,M',E',u,y,h2,l,m⟩:=o;have j:=l.ET;exact⟨v,d,M,E,u,t _ y,i.later j,j.from M E,m.weaken fun b g=> .inl g⟩
 |outgrown=>exact o.elim
def o7 {r:DV}
  (h:∀(X:Nat->Prop) (w:World) (a:List Value),C.G w->(∀b,X b->b<w.heap.size)->aU w X a ds->Calls C.P f a.toArray w fun e w'=>∃v,e= .returned v/\Later w w'/\bF w' X v r):Pure C f ds (.d r) []:=by
 intro X w a g l i m;refine(h X w a g i m).mono fun e w' k=> ?_
 obtain⟨v,rfl,c,n⟩:=k;have j:Sim C X w bg ⟨[],[]⟩:=AO g l i;exact⟨v,⟨[],[]⟩,rfl,j.later c,c.from _ _, .d (n.weaken Me)⟩
end
section
variable {C:Ctx}{X:Nat->Prop}{w w':World}{M:Mem}{E E':Emb}
def Y2:DV->Bool
 | .int _ _=>true
 | .bool _=>true
 | .str _=>true
 | _=>false
def ada {O O':Nat->Prop}:∀{cs:List DV} {vs:List Value},cs.all Y2=true->aU w O vs cs->aU w' O' vs cs
 | [],_,_, .nil=> .nil
 |c::cs,_,h, .cons a b=>by
  simp only[bp,Z]at h;refine .cons ?_ (ada h.2 b);cases a<;>first|exact .int _ _|exact .bool _|exact .str _|(simp[Y2]at h)
def kU (A:Arr):Bool:=(A.st==1||(A.elems.isEmpty&&A.st !=2))&&(flat A.elems).all Y2
def Nb:PV->Bool| .d x=>Bo x| .tsl _ _ _=>true| _=>false
def XC:PV->Bool| .agg cs=>cs.all Nb|p=>Nb p
def Ux:PV->Bool| .agg cs=>cs.all Nb| .tup cs=>cs.all XC|p=>Nb p
variable{rs:List Arr}{X1:Nat->Prop}
def Fe (f:Sim C X w M E)(h:Sim C X1 w' (rowsOf rs) E')(hf:From w bg ⟨[],[]⟩ w' (rowsOf rs) E')(g:rs.all kU=true):Sim C (away X M E) w' (rowsOf rs) E':=
 {glob:=h.glob,gG:=fun b c=> .inl (f.gG b c),xlt:=fun b c=>aq (f.wP c) hf.size,fU:=h.fU,bn:=h.bn
  box:=fun b cs c=>by simp[rowsOf]at c
  arr:=fun k A hA=>by
   obtain⟨h1,h2,h3,q⟩:=h.arr k A hA;have r:A∈rs:=by
    simp only[rowsOf,a7]at hA;cases j:rs[k]? with
    |none=>simp[j]at hA
    |some B=>rw[j]at hA;simp at hA;subst hA;exact bR j
   have d:=bc.1 g A r;simp only[kU,Z]at d;have hst:A.st≠2:=by
    intro e
    rcases br.1 d.1 with h|h
    ·rw[e]at h;simp at h
    ·rw[e]at h;simp at h
   refine⟨h1,h2,h3,fun a o e l=> ?_⟩;obtain⟨t,vs,T,g2,g3,g4,p⟩:=q a o e l;refine⟨fun c=> ?_,vs,T,g2,g3,g4,ada (by simpa using d.2) p⟩;have m:w.heap.size<=a:=by
    refine(hf.own a (.inr ⟨k,A,o,e,hA,hst,l⟩)).resolve_left ?_;rintro(⟨i,cs,h1,_⟩|⟨k,A,o,e,h1,_⟩)<;>simp[bg]at h1
   have:=f.wP c;omega
  bb:=fun b s cs n a h1=>by simp[rowsOf]at h1
  aa:=h.aa
  ba:=fun b k cs A a o e h1=>by simp[rowsOf]at h1}
variable{X2:Nat->Prop}
def He (h:Sim C X1 w' (rowsOf rs) E')(g:rs.all kU=true){v:Value}{p:PV}(n:Nb p=true)(r:Rep w' (away X1 (rowsOf rs) E') (rowsOf rs) E' v p):Rep w' (away X2 (rowsOf rs) E') (rowsOf rs) E' v p:=by
 cases p with
 |d x=>exact .d (Uy n r.toD)
 |tsl k ver skip=>
  cases r with|tsl j hh=>
  refine .tsl j fun A a=> ?_
  obtain⟨w,y⟩:=hh A a;refine⟨w,fun e=> ?_⟩;obtain⟨c,s,z,f⟩:=y e;refine⟨c,s,z,?_⟩;cases c with
  |some q=>exact f
  |none=>
   have u:A∈rs:=by
    simp only[rowsOf,a7]at a;cases i:rs[k]? with
    |none=>simp[i]at a
    |some B=>rw[i]at a;simp at a;subst a;exact bR i
   have b:=bc.1 g A u;simp only[kU,Z]at b
   rcases br.1 b.1 with h1|h1
   ·simp only[beq_iff_eq]at h1
    obtain⟨q,o⟩:=(h.arr k A a).2.2.1 h1;rw[s]at o;cases o
   ·simp only[Z,List.isEmpty_iff]at h1
    have t:A.elems.drop skip=[]:=by rw[h1.1];simp
    simp only at f⊢;rw[t]at f⊢;cases f with
    |empty l=>exact .empty l
    |slice D F m G E l hh=>
     simp only[b8]at m;subst m;exact .empty l
 | _=>simp[Nb]at n
def Es {rs:List Arr}{X1 X2:Nat->Prop}(h:Sim C X1 w' (rowsOf rs) E')(a:rs.all kU=true):∀{vs:List Value} {ps:List PV},ps.all Nb=true->aK w' (away X1 (rowsOf rs) E') (rowsOf rs) E' vs ps->aK w' (away X2 (rowsOf rs) E') (rowsOf rs) E' vs ps
 | _,_,_, .nil=> .nil
 | _,_,b, .cons c d=>by
  simp only[bp,Z]at b;exact .cons (He h a b.1 c) (Es h a b.2 d)
def Yt (h:Sim C X1 w' (rowsOf rs) E')(a:rs.all kU=true){v:Value}{p:PV}(b:XC p=true)(c:Rep w' (away X1 (rowsOf rs) E') (rowsOf rs) E' v p):Rep w' (away X2 (rowsOf rs) E') (rowsOf rs) E' v p:=by
 cases p with
 |agg cs=>cases c with|agg hh=>exact .agg (Es h a b hh)
 | _=>exact He h a b c
def Ld {rs:List Arr}{X1 X2:Nat->Prop}(h:Sim C X1 w' (rowsOf rs) E')(a:rs.all kU=true):∀{vs:List Value} {ps:List PV},ps.all XC=true->aK w' (away X1 (rowsOf rs) E') (rowsOf rs) E' vs ps->aK w' (away X2 (rowsOf rs) E') (rowsOf rs) E' vs ps
 | _,_,_, .nil=> .nil
 | _,_,b, .cons c d=>by
  simp only[bp,Z]at b;exact .cons (Yt h a b.1 c) (Ld h a b.2 d)
def Qx (h:Sim C X1 w' (rowsOf rs) E')(a:rs.all kU=true){v:Value}{p:PV}(b:Ux p=true)(c:Rep w' (away X1 (rowsOf rs) E') (rowsOf rs) E' v p):Rep w' (away X2 (rowsOf rs) E') (rowsOf rs) E' v p:=by
 cases p with
 |agg cs=>cases c with|agg hh=>exact .agg (Es h a b hh)
 |tup cs=>cases c with|tup hh=>exact .tup (Ld h a b hh)
 | _=>exact He h a b c
def VO {f:FuncId}{args:List PV}{ds ds':List DV}{r:PV}(h:Pure C f ds' r rs)(x:Ux r=true)(c:rs.all kU=true){K:PV->Mem->Prop}{KP:DV->Mem->Prop}
  (l:cZ M args=some ds)(m:ds.map DV.strip=ds')(s:K (r.shift M.aB.length) {M with aB:=M.aB++rs.map some}):SC C f args M K KP:=by
 subst m;intro X w E j a p;have k:=lY a args;have hd:=(tN a p l (fun q u=>u)).strip;refine(h (away X (M.frz args) E) w j a.glob (fun b g=> .inl (a.gG b g)) (fun b g=>k.wP g) hd).mono fun e w' m=> ?_
 obtain⟨v,E',rfl,d,o,y⟩:=m;have n:∀A∈rs,A.st≠2:=fun A t e=>by
  have i:=bc.1 c A t;simp only[kU,Z]at i
  rcases br.1 i.1 with h|h
  ·rw[e]at h;simp at h
  ·rw[e]at h;simp at h
 obtain⟨z,B,D⟩:=Ew a (Fe a d o c) o n;exact⟨_,_,_,s,z,B,JQ a.bn (fun b g=>(D b).1 g) (Qx d c x y)⟩
end
def FzB (M:Mem):Prop:=∀i∈M.fz,i<M.boxes.length
structure Kept (n:Nat) (own qO:Nat->Prop) (M M':Mem):Prop where
 len:M.boxes.length<=M'.boxes.length
 bn:M.aB.length<=M'.aB.length
 box:∀i,(n<=i\/own i)->i<M.boxes.length->M'.boxes[i]?=M.boxes[i]?
 fz:∀i,(n<=i\/own i)->i<M.boxes.length->(i∈M'.fz↔i∈M.fz)
 row:∀k,qO k->M'.aB[k]?=M.aB[k]?
 fzb:FzB M->FzB M'
structure Moved (n:Nat) (own:Nat->Prop) (M M':Mem):Prop where
 len:M.boxes.length<=M'.boxes.length
 box:∀i,i<n->¬own i->M'.boxes[i]?=M.boxes[i]?
 fz:∀i,i<n->¬own i->(i∈M'.fz↔i∈M.fz)
 aB:M'.aB=M.aB
 fzb:FzB M->FzB M'
def Kept.refl {n:Nat}{own qO:Nat->Prop}(M:Mem):Kept n own qO M M:=⟨am _,am _,fun _ _ _=>rfl,fun _ _ _=>cn,fun _ _=>rfl,id⟩
def Moved.refl {n:Nat}{own:Nat->Prop}(M:Mem):Moved n own M M:=⟨am _,fun _ _ _=>rfl,fun _ _ _=>cn,rfl,id⟩
def Kept.trans {n:Nat}{own qO:Nat->Prop}{M M' a:Mem}(h:Kept n own qO M M')(h':Kept n own qO M' a):Kept n own qO M a:=
 ⟨bu h.len h'.len,bu h.bn h'.bn,fun i b c=>(h'.box i b (aq c h.len)).trans (h.box i b c),fun i b c=>(h'.fz i b (aq c h.len)).trans (h.fz i b c),fun k d=>(h'.row k d).trans (h.row k d),fun e=>h'.fzb (h.fzb e)⟩
def Moved.trans {n:Nat}{own:Nat->Prop}{M M' a:Mem}(h:Moved n own M M')(h':Moved n own M' a):Moved n own M a:=
 ⟨bu h.len h'.len,fun i b c=>(h'.box i b c).trans (h.box i b c),fun i b c=>(h'.fz i b c).trans (h.fz i b c),h'.aB.trans h.aB,fun d=>h'.fzb (h.fzb d)⟩
variable{M M':Mem}
def Moved.less {n m:Nat}{own a:Nat->Prop}(h:Moved n own M M')(d:m<=n)(ho:∀i,i<m->own i->a i):Moved m a M M':=
 ⟨h.len,fun i b c=>h.box i (aq b d) fun h=>c (ho i b h),fun i b c=>h.fz i (aq b d) fun h=>c (ho i b h),h.aB,h.fzb⟩
variable{bs xb:List (Option (List PV))}{fz xf:List Nat}{ar:List (Option Arr)}
def Moved.ext {n:Nat}{own:Nat->Prop}(c:n<=bs.length)(hx:∀i∈xf,n<=i/\i<bs.length+xb.length):Moved n own ⟨bs,fz,ar⟩ ⟨bs++xb,xf++fz,ar⟩:=
 ⟨by simp,fun i a _=>by rw[bh (aq a c)],fun i a _=>by
  simp only[aL];exact⟨fun h=>h.elim (fun h=>absurd (hx i h).1 (by omega)) id, .inr⟩,rfl,fun b i a=>by
  simp only[bk]
  rcases aL.1 a with h|h
  ·exact(hx i h).2
  ·have:=b i h;simp only at this;omega⟩
def FzB.set {M:Mem}{i:Nat}{x:Option (List PV)}(h:FzB M):FzB {M with boxes:=M.boxes.set i x}:=fun j a=>by simpa using h j a
def Moved.set {n:Nat}{own:Nat->Prop}{M:Mem}{i:Nat}{x:Option (List PV)}(hi:n<=i\/own i):Moved n own M {M with boxes:=M.boxes.set i x}:=
 ⟨by simp,fun j b a=>by
  have:i≠j:=by rintro rfl;exact hi.elim (fun h=>by omega) a
  simp[this],fun _ _ _=>cn,rfl,fun h=>h.set⟩
def Kept.set {n:Nat}{own qO:Nat->Prop}{M:Mem}{i:Nat}{x:Option (List PV)}(hi:i<n)(ho:¬own i):Kept n own qO M {M with boxes:=M.boxes.set i x}:=
 ⟨by simp,am _,fun j a _=>by
  have:i≠j:=by rintro rfl;exact a.elim (fun h=>by omega) ho
  simp[this],fun _ _ _=>cn,fun _ _=>rfl,fun h=>h.set⟩
def Kept.set2 {n:Nat}{own qO:Nat->Prop}{i:Nat}{x:Option (List PV)}(h:Kept n own qO M M')(hi:i<n)(ho:¬own i):Kept n own qO M {M' with boxes:=M'.boxes.set i x}:=h.trans (.set hi ho)
def Kept.ext {n:Nat}{own qO:Nat->Prop}{ar':List (Option Arr)}(hx:∀i∈xf,bs.length<=i/\i<bs.length+xb.length)(hl:ar.length<=ar'.length)(c:∀k,qO k->ar'[k]?=ar[k]?):Kept n own qO ⟨bs,fz,ar⟩ ⟨bs++xb,xf++fz,ar'⟩:=
 ⟨by simp,hl,fun i _ a=>by rw[bh a],fun i _ a=>by
  simp only[aL];exact⟨fun h=>h.elim (fun h=>absurd (hx i h).1 (by simp only at a;omega)) id, .inr⟩,c,fun b i a=>by
  simp only[bk]
  rcases aL.1 a with h|h
  ·exact(hx i h).2
  ·have:=b i h;simp only at this;omega⟩
section
variable {C:Ctx}
variable{f:FuncId}{ds:List DV}
def dR {x:DV}(h:SC C f (ds.map .d) bg (fun p M=>datum M p=some x) (fun _ _=>False)):Pure C f ds (.d x) []:=by
 intro X w a l n s r;refine(h X w ⟨[],[]⟩ a (AO l n s) (aK.ofD (r.weaken ql))).mono fun e w' g=> ?_
 cases e with
 |returned v=>
  obtain⟨p,M',E',hd,h2,j,k⟩:=g;have i:uP M' []:=⟨fun q o=>(by cases o),cj⟩
  exact⟨v,_,rfl,Jh h2 i,DI j i, .d ((je (ps:=[p]) h2 k hd (by simp)).weaken fun b m=> .inl (ql b m))⟩
 |panicked c=>
  obtain⟨v,d,M',E',_,hh,_⟩:=g;exact hh.elim
 |outgrown=>exact g.elim
def Hu (M:Mem)(p:PV)(sz:Nat)(xs:List DV)(st:Nat):Prop:=∃k ver,p= .tsl k ver 0/\M.aB[k]?=some (some ⟨sz,xs,ver,st⟩)
def Hu.datum {M:Mem}{p:PV}{sz st:Nat}{xs:List DV}(h:Hu M p sz xs st):Go.Am.datum M p=some (.slice false xs):=by
 obtain⟨k,ver,rfl,h⟩:=h;simp[Go.Am.datum,Mem.row,h]
def La {sz st:Nat}{xs:List DV}(a:SC C f (ds.map .d) bg (fun p M=>Hu M p sz xs st) (fun _ _=>False)):Pure C f ds (.tsl 0 0 0) [⟨sz,xs,0,st⟩]:=by
 refine BH (SC.mono a fun p M h=> ?_);obtain⟨k,ver,rfl,h⟩:=h;refine⟨[(k,0)],⟨fun q b=>by simp only[bS]at b;subst b;simp[yY,h],by simp⟩,?_,?_⟩
 ·simp[ren,N9,Mem.row,h,I8]
 ·simp[mkRow,h]
end
def O9 (C:Ctx)(g:FuncId)(fs cs:List PV)(xs:List (List DV))(own f qO:Nat->Prop)(st:Mem->Prop):Prop:=
 ∀(M:Mem) (b n:Nat) (R:List (List DV)->Mem->Prop) (stop:Mem->Prop) (K:PV->Mem->Prop) (KP:DV->Mem->Prop),b<n->¬own b->n<=M.boxes.length->(∀i∈M.fz,i<M.boxes.length)->st M->
  (∀a c e,Moved n f c e->R a c->R a e)->
  (∀a x post c,xs=a++x::post->n<=c.boxes.length->R a c->
   SY C b (x.map .d) c (fun p M'=>Kept n own qO c M'/\((p= .d (.bool true)/\R (a++ [x]) M')\/(p= .d (.bool false)/\stop M'))) KP)->
  R [] M->(∀p M',stop M'->K p M')->(∀p M',n<=M'.boxes.length->R xs M'->K p M')->SC C g (fs++ [.nM b]++cs) M K KP
variable{off:Nat}{ps:List (Nat×Nat)}{vs:List PV}
def Rn {cs:List PV}{p:PV}(h1:p.cells=[p])(h2:p.mP=false)(h:off+1<=cs.length):jm cs ((off,1)::ps) (p::vs)=jm (splice cs off [p]) ps vs:=by
 simp[jm,h1,h2,h]
variable{k v s:Nat}
def aaT {cs:List PV}(h:off+1<=cs.length):jm cs ((off,1)::ps) (.tsl k v s::vs)=jm (splice cs off [.tsl k v s]) ps vs:=Rn rfl rfl h
variable{b o:Nat}
def aaS {cs:List PV}(h:off+1<=cs.length):jm cs ((off,1)::ps) (.ptr b o::vs)=jm (splice cs off [.ptr b o]) ps vs:=Rn rfl rfl h
def GL {cs:List PV}(h:off+1<=cs.length):jm cs ((off,1)::ps) (.mref b::vs)=jm (splice cs off [.mref b]) ps vs:=Rn rfl rfl h
def aaQ {cs a:List PV}{off n:Nat}(h1:a.length=n)(h:off+n<=cs.length):jm cs ((off,n)::ps) (.agg a::vs)=jm (splice cs off a) ps vs:=by
 simp[jm,PV.cells,PV.mP,h1,h]
variable{l:List PV}
def bC:gU (.tsl k v s::l)=none:=rfl
def qj:gU (.mref b::l)=none:=rfl
def iO {cs:List PV}:PV.cells (.agg cs)=cs:=rfl
def DW:PV.one (.mref b)=true:=rfl
def pW {cs:List PV}:PV.mP (.agg cs)=false:=rfl
def l7:gU (.ptr b o::l)=none:=rfl
variable{fn:Fn}{f c:List PV}
def cells_func:PV.cells (.func fn f c)=[.func fn f c]:=rfl
def xk:PV.cells (.ptr b o)=[.ptr b o]:=rfl
def bV:PV.cells (.tsl k v s)=[.tsl k v s]:=rfl
def Xf:PV.cells (.nM b)=[.nM b]:=rfl
def UR:PV.mP (.nM b)=false:=rfl
def GR:PV.mP (.ptr b o)=false:=rfl
def Vm:PV.one (.func fn f c)=true:=rfl
def EX:PV.one (.ptr b o)=true:=rfl
def dM:PV.one (.tsl k v s)=true:=rfl
section
variable {C:Ctx}{nb na:Nat}{Q:Ex->St->Prop}
def uH (env:List (Nat×PV))(b:Nat)(L:Loop)(cells:List PV)(own qO:Nat->Prop)(c:Mem)(more:Mem->Prop)(Q:Ex->St->Prop)(e:Ex)(s:St):Prop:=
 match e with
 | .normal=>s.mem.boxes[b]?=some (some (.fP {L with state:= .busy,pending:=none}::cells))/\b∉s.mem.fz/\Kept (b+1) own qO c s.mem/\more s.mem
 | .ret=>s.mem.boxes[b]?=some (some (.fP {L with state:= .busy,pending:=none}::cells))/\b∉s.mem.fz/\Kept (b+1) own qO c s.mem/\∀a,Moved b (fun _=>False) s.mem a->Q .ret ⟨env,a⟩
 | .exit id=>s.mem.boxes[b]?=some (some (.fP {L with state:= .busy,pending:=none}::cells))/\b∉s.mem.fz/\Kept (b+1) own qO c s.mem/\∀a,Moved b (fun _=>False) s.mem a->Q (.exit id) ⟨env,a⟩
 | .panic d=>Q (.panic d) ⟨[],s.mem⟩
def Ny {b:Nat}{own qO:Nat->Prop}{c M':Mem}{x y:Option (List PV)}(hb:b<c.boxes.length)(ho:¬own b)(h:Kept (b+1) own qO {c with boxes:=c.boxes.set b x} M'):Kept (b+1) own qO c {M' with boxes:=M'.boxes.set b y}:=by
 have f:c.boxes.length<=M'.boxes.length:=by simpa using h.len
 refine⟨by simpa using h.len,h.bn,fun i d a=> ?_,fun i d a=>h.fz i d (by simpa using a),h.row,fun hb=>(h.fzb hb.set).set⟩;have e:b≠i:=by rintro rfl;exact d.elim (fun h=>by omega) ho
 have:=h.box i d (by simpa using a)
 simpa[e]using this
def qc {f:Opd}{ps keys:List Nat}{asg body:aA}{s:St}{g:FuncId}{fs cs:List PV}{xs:List (List DV)}{own F qO:Nat->Prop}{st:Mem->Prop}(hit:O9 C g fs cs xs own F qO st)(K:∀i,F i->own i)(hv:afU (s.val f)=some (g,fs,cs))(hc:callable C.P g=true)
  (DN:∀i∈s.mem.fz,i<s.mem.boxes.length)(M:∀x∈xs,x.length=ps.length)(c:∀i,own i->i<s.mem.boxes.length)(A:∀M',Moved s.mem.boxes.length (fun _=>False) s.mem M'->st M')
  (I:List (List DV)->Mem->Prop)(v:∀pre a j,Moved s.mem.boxes.length F a j->I pre a->I pre j)(X:I [] s.mem)
  (hb:∀(L:Loop) (cells:List PV) (pre:List (List DV)) (x:List DV) (post:List (List DV)) (a:Mem),xs=pre++x::post->s.mem.boxes.length<a.boxes.length->
   a.boxes[s.mem.boxes.length]?=some (some (.fP {L with state:= .busy,pending:=none}::cells))->s.mem.boxes.length∉a.fz->I pre a->∀O:Mem,
   pwp C nb na asg (fun e N=>e= .normal/\N.mem=O/\pwp C nb na body (uH s.env s.mem.boxes.length L cells own qO a (I (pre++ [x])) Q) ⟨N.env,a⟩) ⟨ps.zip (x.map .d)++gW s.env keys,O⟩)
  (R:∀a,I xs a->s.mem.boxes.length<a.boxes.length->Q .normal ⟨s.env,a⟩):
  pwp C nb na (.rM f ps keys asg body) Q s:=by
 have t:s.mem.boxes.length∉s.mem.fz:=fun h=>Nat.lt_irrefl _ (DN _ h)
 refine⟨g,fs,cs,hv,hc,t,fun L hL kV=> ?_⟩;generalize G:(List.range L.tmps.size).map (look s.env)=cells at kV⊢;obtain⟨b,l⟩:∃b,b=s.mem.boxes.length:=⟨_,rfl⟩
 rw[<-l]at kV t DN c A v hb R⊢;have y:Moved b (fun _=>False) s.mem (fV s.mem L .ready none cells [] [] []):=by
  rw[l];refine⟨by simp[fV],fun i u _=> ?_,fun i u _=>by simp[fV],by simp[fV],fun hb i u=> ?_⟩
  ·simp only[fV]
   rw[bh u]
  ·have:=hb i (by simpa[fV]using u)
   simp[fV];omega
 have z:(fV s.mem L .ready none cells [] [] []).boxes[b]?=some (some (.fP {L with state:= .ready,pending:=none}::cells)):=by rw[l];exact RU
 have k:∀(e:Ex) (st:LoopState) (E:Option Code) (M':Mem),M'.boxes[b]?=some (some (.fP {L with state:=st,pending:=E}::cells))->st≠ .busy->b∉M'.fz->
   (match E with|none=>e= .normal|some .ret=>e= .ret|some (.exit id)=>e= .exit id| _=>False)->(∀j,Moved b (fun _=>False) M' j->Q e ⟨s.env,j⟩)->afterLoop Q s.env b L M':=by
  intro e st E M' h1 h2 q r Y;refine⟨st,E,cells,h1,h2,q,?_⟩;have H:∀x,Q e ⟨s.env,{M' with boxes:=M'.boxes.set b x}⟩:=fun x=>Y _ (Moved.set (.inl (am _)))
  match E,r with
  |none,r=>subst r;exact H _
  |some .ret,r=>subst r;exact H _
  |some (.exit id),r=>subst r;exact H _
 refine hit _ b (b+1) (fun pre a=>a.boxes[b]?=some (some (.fP {L with state:= .ready,pending:=none}::cells))/\b∉a.fz/\I pre a)
  (fun M'=>afterLoop Q s.env b L M') _ _ (by omega) (fun h=>by have:=c _ h;omega) (by rw[l];simp[fV]) (fun i u=>by simp only[fV,aM,bk,b6,b8]at u⊢;have:=DN i u;rw[<-l];omega) (A _ y) ?_ ?_ ⟨z,by simpa[fV]using t,v _ _ _ (y.less (am _) fun _ _ h=>h.elim) X⟩ (fun _ _ h=>h) ?_
 ·rintro pre a j m ⟨h1,h2,q⟩
  have w:¬F b:=fun h=>by have:=c _ (K _ h);omega
  exact⟨by rw[m.box b (by omega) w];exact h1,fun h=>h2 ((m.fz b (by omega) w).1 h),v _ _ _ (m.less (by omega) fun _ _ h=>h) q⟩
 ·rintro pre x post a S Z ⟨h1,h2,q⟩
  have w:¬own b:=fun h=>by have:=c _ h;omega
  refine kV x _ _ a (M x (by rw[S];simp)) h1 h2 ?_;have J:=hb L cells pre x post {a with boxes:=a.boxes.set b (some (.fP {L with state:= .busy,pending:=none}::cells))} S (by simp only[List.length_set];omega) (by rw[List.getElem?_set];simp;omega) h2 (v _ _ _ (Moved.set (.inl (am _))) q) a;refine ng ?_ J;rintro e N ⟨U,V,W⟩;refine⟨U,V,ng ?_ W⟩;intro T s2 h;cases T with
  |normal=>
   obtain⟨n,o,B,D⟩:=h;refine⟨cells,n,o,Ny (by omega) w B, .inl ⟨rfl,?_,o,v _ _ _ (Moved.set (.inl (am _))) D⟩⟩;have:=(av.1 n).1;simp[this]
  |ret=>
   obtain⟨n,o,B,D⟩:=h;refine⟨cells,n,o,Ny (by omega) w B, .inr ⟨rfl,k .ret .done (some .ret) _ ?_ (by simp) o rfl fun j m=>D j ((Moved.set (.inl (am _))).trans m)⟩⟩;have:=(av.1 n).1;simp[this]
  |exit id=>
   obtain⟨n,o,B,D⟩:=h;refine⟨cells,n,o,Ny (by omega) w B, .inr ⟨rfl,k (.exit id) .done (some (.exit id)) _ ?_ (by simp) o rfl fun j m=>D j ((Moved.set (.inl (am _))).trans m)⟩⟩;have:=(av.1 n).1;simp[this]
  |panic d=>exact h
 ·rintro p a Z ⟨h1,h2,q⟩
  refine k .normal .ready none a h1 (by simp) h2 rfl fun j m=>R j (v _ _ _ (m.less (am _) fun _ _ h=>h.elim) q) ?_
  have:=m.len;omega
end
end Go.Am
namespace Go.Tel
open Go.Am
namespace F
end F
namespace T
abbrev int:TypeId:=3
abbrev bool:TypeId:=4
abbrev string:TypeId:=9
abbrev alN:TypeId:=185
abbrev amK:TypeId:=187
abbrev bD:TypeId:=317
abbrev ig:TypeId:=323
abbrev pF:TypeId:=363
abbrev eG:TypeId:=368
abbrev bI:TypeId:=372
abbrev dQ:TypeId:=374
abbrev dF:TypeId:=376
abbrev eH:TypeId:=378
abbrev Jw:TypeId:=458
abbrev aaC:TypeId:=460
end T
noncomputable def C:Ctx:=
 {P:=Go.Proofs.Tryz.prog
  low:=fun b=>Go.Proofs.Tryz.prog.globalNamed "internal/strconv.uint64pow10" =some b
  G:=fun w=>Go.Lib.TabIs Go.Proofs.Tryz.prog w "internal/strconv.uint64pow10" .u64 Go.Lib.pow10Tab
  keeps:=fun w w' h hk=>by
   unfold Go.Lib.TabIs World.var? at h⊢;cases hg:Go.Proofs.Tryz.prog.globalNamed "internal/strconv.uint64pow10" with
   |none=>rw[hg]at h;exact h
   |some g=>
    rw[hg]at h;simp only[Option.bind_some]at h⊢;rw[hk g hg];exact h}
def mixed:C.P.follows .mixedOrders=true:=by kernel_rfl
variable{f:FuncId}{ds:List DV}
def iF {r:PV}{ls:List Arr}(pc:aA)(rs:List iw)(h:pwp C 0 0 pc (LG rs (fun p M=>∃L,uP M L/\ren M L p=r/\L.map (mkRow M)=ls) (fun _ _=>False)) ⟨qw 0 (ds.map .d),bg⟩)(hc:zL C.P f (ds.map PV.d).length pc rs=true:=by kernel_rfl):Pure C f ds r ls:=VD mixed rfl hc h
def ah {x:DV}(pc:aA)(rs:List iw)(h:pwp C 0 0 pc (LG rs (fun p _=>p= .d x) (fun _ _=>False)) ⟨qw 0 (ds.map .d),bg⟩)(hc:zL C.P f (ds.map PV.d).length pc rs=true:=by kernel_rfl):Pure C f ds (.d x) []:=Gl mixed rfl hc h
def aC {args:List PV}{M:Mem}{K:PV->Mem->Prop}{KP:DV->Mem->Prop}(pc:aA)(rs:List iw)(h:pwp C M.boxes.length M.aB.length pc (LG rs K KP) ⟨qw 0 args,M⟩)(hc:zL C.P f args.length pc rs=true:=by kernel_rfl):SC C f args M K KP:=AL mixed rfl hc h
end Go.Tel
namespace Go.Am
abbrev dI (n:Int):DV:= .int .i64 n
abbrev sF (l:List DV):DV:= .slice false l
abbrev pI (n:Int):PV:= .d (.int .i64 n)
end Go.Am
namespace Go.Tel
open Go.Am
abbrev kI (n:Int):Opd:= .c (.int .i64 n)
abbrev mv (d a:Nat):PO:=⟨some d, .mov,[.t a],none,0⟩
abbrev mk (d:Nat)(a:Opd):PO:=⟨some d, .mov,[a],none,0⟩
abbrev oa (d:Nat)(o:POp)(a:Nat):PO:=⟨some d,o,[.t a],none,0⟩
abbrev ob (d:Nat)(o:POp)(a b:Nat):PO:=⟨some d,o,[.t a, .t b],none,0⟩
abbrev oc (d:Nat)(o:POp)(a:Nat)(b:Opd):PO:=⟨some d,o,[.t a,b],none,0⟩
abbrev on (d:Nat)(o:POp)(l:List Opd):PO:=⟨some d,o,l,none,0⟩
abbrev of (d:Nat)(o:POp)(l:List Opd)(f:Nat):PO:=⟨some d,o,l,none,f⟩
abbrev ot (d:Nat)(o:POp)(l:List Opd)(g f:Nat):PO:=⟨some d,o,l,some (g,true),f⟩
abbrev oF (d:Nat)(o:POp)(l:List Opd)(g f:Nat):PO:=⟨some d,o,l,some (g,false),f⟩
abbrev lo (d a:Nat):PO:=⟨some d, .load false 1,[.t a],none,0⟩
abbrev os (o:POp)(l:List Opd)(f:Nat):PO:=⟨none,o,l,none,f⟩
abbrev rg (l:List PO)(n:Nat)(k:List Nat):aA:= .region false l n k []
abbrev ou (d:Nat)(o:POp)(a f:Nat):PO:=⟨some d,o,[.t a],none,f⟩
abbrev ov (d:Nat)(o:POp)(a g f:Nat):PO:=⟨some d,o,[.t a],some (g,true),f⟩
abbrev ow (d:Nat)(o:POp)(a g f:Nat):PO:=⟨some d,o,[.t a],some (g,false),f⟩
abbrev lv (d a:Nat):PO:=⟨some d, .load false 1,[.t a],none,1⟩
abbrev fa (d n a:Nat):PO:=⟨some d, .fld n,[.t a],none,0⟩
abbrev fu (d n a f:Nat):PO:=⟨some d, .fld n,[.t a],none,f⟩
abbrev lw (d n a:Nat):PO:=⟨some d, .load true n,[.t a],none,0⟩
abbrev ba (d n a:Nat):PO:=⟨some d, .box n,[.t a],none,0⟩
abbrev xa (d n a:Nat):PO:=⟨some d, .ext n,[.t a],none,0⟩
abbrev oi (d:Nat)(o:POp)(a:Nat)(n:Int):PO:=⟨some d,o,[.t a, .c (.int .i64 n)],none,0⟩
abbrev sk (n a b f:Nat):PO:=⟨none, .store n,[.t a, .t b],none,f⟩
abbrev pf (d a b:Nat):PO:=⟨some d, .pick,[.t a, .t b, .c (.bool false)],none,0⟩
abbrev pt (d a b:Nat):PO:=⟨some d, .pick,[.t a, .c (.bool true), .t b],none,0⟩
abbrev mf (d:Nat)(b:Bool):PO:=⟨some d, .mov,[.c (.bool b)],none,0⟩
abbrev mi (d:Nat)(n:Int):PO:=⟨some d, .mov,[.c (.int .i64 n)],none,0⟩
abbrev ag (d n:Nat):PO:=⟨some d, .QO n,[.c (.slice true [])],none,0⟩
abbrev ix (d n a b:Nat):PO:=⟨some d, .bU n,[.t a, .t b],none,0⟩
abbrev sr (l:List PO)(n:Nat)(k:List Nat)(p:aA):aA:= .seq (.region false l n k []) p
abbrev z0:DV:= .int .i64 0
abbrev zs:DV:= .slice true []
abbrev r0 (l:List PO)(n:Nat)(k z:List Nat):aA:= .region false l n k z
abbrev r1 (l:List PO)(n:Nat)(k z:List Nat):aA:= .region true l n k z
abbrev lq (d a g:Nat):PO:=⟨some d, .load false 1,[.t a],some (g,false),0⟩
abbrev ob1 (d:Nat)(o:POp)(a b f:Nat):PO:=⟨some d,o,[.t a, .t b],none,f⟩
abbrev obT (d:Nat)(o:POp)(a b g f:Nat):PO:=⟨some d,o,[.t a, .t b],some (g,true),f⟩
abbrev obF (d:Nat)(o:POp)(a b g f:Nat):PO:=⟨some d,o,[.t a, .t b],some (g,false),f⟩
abbrev al (d i:Nat)(z:List DV):PO:=⟨some d, .alloc i z,[],none,0⟩
abbrev cx (t e:Nat):aA:= .cond (.t t) .skip (.exit e)
abbrev cd (t:Nat)(p q:aA):aA:= .cond (.t t) p q
abbrev sw (p q:aA):aA:= .seq p q
abbrev pA:POp:= .bin .add
abbrev pN:POp:= .un .not
abbrev pL:POp:= .bin .lss
abbrev pE:POp:= .bin .eql
abbrev pU:POp:= .bin .sub
abbrev pM:POp:= .bin .mul
abbrev pQ:POp:= .bin .neq
abbrev pG:POp:= .bin .gtr
def aQ:List iw:=[.tmp 4]
def aS:List iw:=[.tmp 2]
def fB:List iw:=[]
def bQ:List iw:=[.tmp 4, .tmp 5]
def ahA:List iw:=[.cell 2 true 2, .tmp 3, .tmp 4]
def ahB:List iw:=[.cell 2 true 2]
def iH:List iw:=[.tmp 6]
def Ll:List iw:=[.cell 4 true 2]
def QA:List iw:=[.tmp 6, .tmp 7]
def Zq:List iw:=[.tmp 2, .tmp 3, .tmp 4]
def aem:List iw:=[.tmp 10, .tmp 11]
def Sz:List iw:=[.tmp 8, .tmp 9]
def JU:List iw:=[.tmp 3]
def aen:List iw:=[.cell 2 true 3]
def SA:List iw:=[.tmp 13, .tmp 14]
def SB:List iw:=[.tmp 8]
def Oh:List iw:=[.tmp 5]
def SE:List iw:=[.cell 4 true 7]
def SG:List iw:=[.cell 4 true 3, .tmp 5]
def aeo:List iw:=[.cell 4 true 3]
def aep:List iw:=[.cell 8 true 2, .tmp 9]
def aer:List iw:=[.cell 4 true 10]
def aes:List iw:=[.cell 10 true 8]
def JV:List iw:=[.tmp 2, .tmp 3]
def aeu:List iw:=[.cell 6 true 3, .tmp 7]
def aev:List iw:=[.cell 2 true 17]
def SH:List iw:=[.cell 2 true 2, .tmp 3]
def aew:List iw:=[.cell 0 true 12]
def aex:List iw:=[.cell 0 true 24]
def aey:List iw:=[.cell 0 true 17]
def JW:List iw:=[.cell 0 true 2]
def aez:List iw:=[.cell 0 true 3]
def aeA:List iw:=[.cell 0 true 8]
def aeB:List iw:=[.tmp 10]
def am5:List iw:=[.tmp 0]
def z1:((0:Int)==0)=true:=rfl
def j0:(0:Int)<=0:=by omega
def t0:(0:Int).toNat=0:=rfl
def t1:(1:Int).toNat=1:=rfl
def t2:(2:Int).toNat=2:=rfl
def iU:aA:=(sr [mf 4 false] 0 [0,1] (sr [mv 5 0,mv 6 1,ob 7 (.aj 140) 5 6,oi 8 (.bin .geq) 7 0,mv 4 8] 0 [4] .ret))
def jB:aA:=(sw (r0 [ba 3 0 1,mf 4 false] 1 [0,3] [3]) (sr [mv 5 0,lw 6 2 3,ob 7 (.aj 142) 5 6,oi 8 (.bin .geq) 7 0,mv 4 8] 0 [4] .ret))
def vg:aA:=(sr [mf 4 false] 0 [0,1] (sr [mv 5 0,mv 6 1,ob 7 (.aj 150) 5 6,mv 4 7] 0 [4] .ret))
def Ak:aA:=(sr [ba 1 0 0,mk 2 (.c (.nilFunc))] 1 [1] (sr [oa 3 (.mkF (.func 151) 0) 1,mv 2 3] 0 [2] .ret))
def tJ:aA:=(sr [mk 4 (.c (.str ⟨#[]⟩))] 0 [0,1] (sr [mv 5 0,mv 6 1,ob 7 (.aj 159) 5 6,mv 4 7] 0 [4] .ret))
def jJ:aA:=(sw (r0 [ba 3 0 1,mf 4 false] 1 [0,3] [3]) (sr [mv 5 0,lw 6 2 3,ob 7 (.aj 161) 5 6,oi 8 (.bin .geq) 7 0,mv 4 8] 0 [4] .ret))
def iL:aA:=(sr [mf 4 false] 0 [0,1] (sr [mv 5 0,mv 6 1,ob 7 (.aj 162) 5 6,oi 8 (.bin .geq) 7 0,mv 4 8] 0 [4] .ret))
def alG:aA:=(sr [ag 4 2] 0 [0,1] (sw (sr [mv 9 1,oi 10 pL 9 0] 0 [0,1,10] (cd 10 (rg [on 11 (.mkI T.string) [.c (.str ⟨#[99,97,110,110,111,116,32,98,101,32,110,101,103,97,116,105,118,101]⟩)],os .panic [.t 11] 0] 0 [0,1]) .skip)) (sr [mv 13 0,oa 14 .len 13,oa 15 (.conv .u64) 14,mv 16 1,oa 17 (.conv .u64) 16,ob 18 (.aj 169) 15 17,mv 12 18,xa 19 0 12,xa 20 1 12,mv 5 19,mv 6 20] 0 [0,5,6] (sw (sr [mv 21 5,oc 22 pG 21 (.c (.int .u64 0)),mv 23 22,ow 24 .mov 6 23 0,oF 25 pG [.t 24,.c (.int .u64 9223372036854775807)] 23 0,pt 26 23 25] 0 [0,6,26] (cd 26 (rg [on 27 (.mkI T.string) [.c (.str ⟨#[116,104,101,32,114,101,115,117,108,116,32,111,102,32,40,108,101,110,40,120,41,32,42,32,99,111,117,110,116,41,32,111,118,101,114,102,108,111,119,115]⟩)],os .panic [.t 27] 0] 0 [0,6]) .skip)) (sr [mv 28 6,oa 29 (.conv .i64) 28,ob 30 (.mkRow 2 (.agg [z0,z0])) 29 29,mv 7 30] 0 [0,7] (sr [mv 31 7,mv 32 0,ob 33 (.copy 2) 31 32,mv 8 33] 0 [7,8] (sw (.block 0 (.loop (sw (sr [mv 34 8,mv 35 7,oa 36 .len 35,ob 37 pL 34 36] 0 [7,8,37] (cx 37 0)) (.block 1 (r1 [mv 38 8,mv 39 7,mv 40 8,ob 41 (.VW 2) 39 40,mv 42 7,mv 43 8,ob 44 (.VX 2) 42 43,ob 45 (.copy 2) 41 44,ob 46 pA 38 45,mv 8 46] 0 [7,8] []))))) (sr [mv 47 7,mv 4 47] 0 [4] .ret))))))))
def mY:aA:=(sr [mf 4 false] 0 [0,1] (sr [mv 5 0,mv 6 1,ob 7 (.aj 193) 5 6,oi 8 (.bin .geq) 7 0,mv 4 8] 0 [4] .ret))
def rF:aA:=(sr [mf 4 false] 0 [0,1] (sr [mv 5 0,mv 6 1,ob 7 (.aj 196) 5 6,oi 8 (.bin .geq) 7 0,mv 4 8] 0 [4] .ret))
def jD:aA:=(sr [mi 4 0] 0 [0,1] (sw (sr [mv 6 0,oa 7 .len 6,mi 8 0] 0 [0,1,7,8] (.block 0 (.loop (sr [ob 9 pL 8 7] 0 [0,1,7,8,9] (sw (cx 9 0) (sw (.block 1 (sr [mv 10 8,mv 5 10] 0 [0,1,5,7,8] (sr [mv 11 1,mv 12 0,mv 13 5,ix 14 2 12 13,lw 15 2 14,ob 16 .gJ 11 15] 0 [0,1,5,7,8,16] (cd 16 (sr [mv 17 5,mv 4 17] 0 [4] .ret) .skip)))) (rg [oi 18 pA 8 1,mv 8 18] 0 [0,1,7,8]))))))) (sr [mi 4 (-1)] 0 [4] .ret)))
def Aa:aA:=(sr [mf 2 false] 0 [0] (sr [mv 3 0,mv 4 0,ob 5 pQ 3 4,mv 2 5] 0 [2] .ret))
def kE:aA:=(sw (r0 [ba 3 0 1,mi 4 0] 1 [0,3] [3]) (sw (sr [mv 6 0,oa 7 .len 6,mi 8 0] 0 [0,3,7,8] (.block 0 (.loop (sr [ob 9 pL 8 7] 0 [0,3,7,8,9] (sw (cx 9 0) (sw (.block 1 (sr [mv 10 8,mv 5 10] 0 [0,3,5,7,8] (sw (r1 [ou 11 (.load true 2) 3 1,mv 12 0,mv 13 5,ob1 14 (.bU 2) 12 13 1,ou 15 (.load true 2) 14 1,ob 16 (.A8 false [1,1]) 11 15] 0 [0,3,5,7,8,16] []) (cd 16 (sr [mv 17 5,mv 4 17] 0 [4] .ret) .skip)))) (rg [oi 18 pA 8 1,mv 8 18] 0 [0,3,7,8]))))))) (sr [mi 4 (-1)] 0 [4] .ret)))
def kC:aA:=(sr [ag 2 2] 0 [0] (sw (sr [mv 3 0,oc 4 (.isNil false) 3 (.c (.slice true []))] 0 [0,4] (cd 4 (sr [ag 2 2] 0 [2] .ret) .skip)) (sr [on 5 (.dA 2 [] []) [],mv 6 0,ob 7 (.app 2 false) 5 6,mv 2 7] 0 [2] .ret)))
def kD:aA:=(sr [ag 2 4] 0 [0] (sw (sr [mv 3 0,oc 4 (.isNil false) 3 (.c (.slice true []))] 0 [0,4] (cd 4 (sr [ag 2 4] 0 [2] .ret) .skip)) (sr [on 5 (.dA 4 [] []) [],mv 6 0,ob 7 (.app 4 false) 5 6,mv 2 7] 0 [2] .ret)))
def kN:aA:=(sr [ag 2 2] 0 [0] (sw (sr [mv 3 0,oc 4 (.isNil false) 3 (.c (.slice true []))] 0 [0,4] (cd 4 (sr [ag 2 2] 0 [2] .ret) .skip)) (sr [on 5 (.dA 2 [] []) [],mv 6 0,ob 7 (.app 2 false) 5 6,mv 2 7] 0 [2] .ret)))
def jP:aA:=(sr [mf 4 false] 0 [0,1] (sr [mv 5 0,oa 6 .Dj 5,mv 7 1,oa 8 .Dj 7,ob 9 (.bin .geq) 6 8,mv 10 9,ov 11 .mov 0 10 0,ov 12 .mov 0 10 0,ov 13 .Dj 12 10 0,ov 14 .mov 1 10 0,ov 15 .Dj 14 10 0,obT 16 pU 13 15 10 0,obT 17 (.Ji true false) 11 16 10 0,ov 18 .mov 1 10 0,obT 19 pE 17 18 10 0,pf 20 10 19,mv 4 20] 0 [4] .ret))
def yF:aA:=(.block 0 (.loop (sw (sr [lo 5 1,oa 6 .Dj 5,oi 7 pG 6 0] 0 [0,1,7] (cx 7 0)) (.block 1 (sr [mk 3 (.c (.str ⟨#[]⟩))] 0 [0,1] (sw (sr [lo 8 1,oc 9 (.aj 152) 8 (.c (.int .u8 10)),mv 4 9] 0 [0,1,4] (sr [mv 10 4,oi 11 (.bin .geq) 10 0] 0 [0,1,4,11] (cd 11 (r1 [ou 12 (.load false 1) 1 2,mv 13 4,oi 14 pA 13 1,ob1 15 (.Ji false true) 12 14 1,ou 16 (.load false 1) 1 2,mv 17 4,oi 18 pA 17 1,ob1 19 (.Ji true false) 16 18 1,mv 3 15,sk 1 1 19 0] 0 [0,1,3] []) (rg [lo 20 1,mv 3 20,os (.store 1) [.t 1,.c (.str ⟨#[]⟩)] 0] 0 [0,1,3])))) (sr [mv 21 0,mv 22 3,ob 23 .gJ 21 22,oa 24 pN 23] 0 [0,1,24] (cd 24 .ret .skip))))))))
def nY:aA:=(sr [mk 4 (.c (.str ⟨#[]⟩))] 0 [0,1] (sw (sr [mv 5 0,mv 6 1,ob 7 (.aj 150) 5 6] 0 [0,1,7] (cd 7 (sr [mv 8 0,mv 9 0,oa 10 .Dj 9,mv 11 1,oa 12 .Dj 11,ob 13 pU 10 12,ob 14 (.Ji false true) 8 13,mv 4 14] 0 [4] .ret) .skip)) (sr [mv 15 0,mv 4 15] 0 [4] .ret)))
def kP:aA:=(sw (r0 [ba 3 0 1,mi 4 0] 1 [0,3] [3]) (sw (sr [mv 6 0,oa 7 .len 6,mi 8 0] 0 [0,3,7,8] (.block 0 (.loop (sr [ob 9 pL 8 7] 0 [0,3,7,8,9] (sw (cx 9 0) (sw (.block 1 (sr [mv 10 8,mv 5 10] 0 [0,3,5,7,8] (sw (r1 [ou 11 (.load true 2) 3 1,mv 12 0,mv 13 5,ob1 14 (.bU 2) 12 13 1,ou 15 (.load true 2) 14 1,ob 16 (.A8 false [1,1]) 11 15] 0 [0,3,5,7,8,16] []) (cd 16 (sr [mv 17 5,mv 4 17] 0 [4] .ret) .skip)))) (rg [oi 18 pA 8 1,mv 8 18] 0 [0,3,7,8]))))))) (sr [mi 4 (-1)] 0 [4] .ret)))
def jr:aA:=(sr [mi 4 0] 0 [0,1] (sw (sr [mv 6 0,oa 7 .len 6,mi 8 0] 0 [0,1,7,8] (.block 0 (.loop (sr [ob 9 pL 8 7] 0 [0,1,7,8,9] (sw (cx 9 0) (sw (.block 1 (sr [mv 10 8,mv 5 10] 0 [0,1,5,7,8] (sr [mv 11 1,mv 12 0,mv 13 5,ix 14 4 12 13,lw 15 4 14,ob 16 .gJ 11 15] 0 [0,1,5,7,8,16] (cd 16 (sr [mv 17 5,mv 4 17] 0 [4] .ret) .skip)))) (rg [oi 18 pA 8 1,mv 8 18] 0 [0,1,7,8]))))))) (sr [mi 4 (-1)] 0 [4] .ret)))
def amd:aA:=(sr [mk 4 (.c (.int .u64 0)),mk 5 (.c (.int .u64 0))] 0 [0,1] (sw (.cond (.c (.bool false)) (sr [mv 11 0,oa 12 (.conv .u32) 11,mv 13 1,oa 14 (.conv .u32) 13,ob 15 (.aj 247) 12 14,mv 10 15,xa 16 0 10,xa 17 1 10,mv 6 16,mv 7 17] 0 [6,7] (sr [mv 18 6,oa 19 (.conv .u64) 18,mv 20 7,oa 21 (.conv .u64) 20,mv 4 19,mv 5 21] 0 [4,5] .ret)) .skip) (sr [mv 23 0,mv 24 1,ob 25 (.aj 248) 23 24,mv 22 25,xa 26 0 22,xa 27 1 22,mv 8 26,mv 9 27] 0 [8,9] (sr [mv 28 8,mv 29 9,mv 4 28,mv 5 29] 0 [4,5] .ret))))
def qK:aA:=(sr [mi 4 0] 0 [0,1] (sw (sr [mv 6 0,oa 7 .len 6,mi 8 0] 0 [0,1,7,8] (.block 0 (.loop (sr [ob 9 pL 8 7] 0 [0,1,7,8,9] (sw (cx 9 0) (sw (.block 1 (sr [mv 10 8,mv 5 10] 0 [0,1,5,7,8] (sr [mv 11 1,mv 12 0,mv 13 5,ix 14 1 12 13,lo 15 14,ob 16 .gJ 11 15] 0 [0,1,5,7,8,16] (cd 16 (sr [mv 17 5,mv 4 17] 0 [4] .ret) .skip)))) (rg [oi 18 pA 8 1,mv 8 18] 0 [0,1,7,8]))))))) (sr [mi 4 (-1)] 0 [4] .ret)))
def wK:aA:=(sr [mi 4 0] 0 [0,1] (sw (sr [mv 6 0,oa 7 .len 6,mi 8 0] 0 [0,1,7,8] (.block 0 (.loop (sr [ob 9 pL 8 7] 0 [0,1,7,8,9] (sw (cx 9 0) (sw (.block 1 (sr [mv 10 8,mv 5 10] 0 [0,1,5,7,8] (sr [mv 11 1,mv 12 0,mv 13 5,ix 14 1 12 13,lo 15 14,ob 16 pE 11 15] 0 [0,1,5,7,8,16] (cd 16 (sr [mv 17 5,mv 4 17] 0 [4] .ret) .skip)))) (rg [oi 18 pA 8 1,mv 8 18] 0 [0,1,7,8]))))))) (sr [mi 4 (-1)] 0 [4] .ret)))
def gY:aA:=(sr [mf 4 false] 0 [0,1] (sr [mv 5 0,mv 6 1,ob 7 (.aj 271) 5 6,oi 8 (.bin .geq) 7 0,mv 4 8] 0 [4] .ret))
def lH:aA:=(sr [ag 2 3] 0 [0] (sw (sr [mv 3 0,oc 4 (.isNil false) 3 (.c (.slice true []))] 0 [0,4] (cd 4 (sr [ag 2 3] 0 [2] .ret) .skip)) (sr [on 5 (.dA 3 [] []) [],mv 6 0,ob 7 (.app 3 true) 5 6,mv 2 7] 0 [2] .ret)))
def wJ:aA:=(sr [ag 2 1] 0 [0] (sw (sr [mv 3 0,oc 4 (.isNil false) 3 (.c (.slice true []))] 0 [0,4] (cd 4 (sr [ag 2 1] 0 [2] .ret) .skip)) (sr [on 5 (.dA 1 [] []) [],mv 6 0,ob 7 (.app 1 false) 5 6,mv 2 7] 0 [2] .ret)))
def jA:aA:=(sr [ag 2 2] 0 [0] (sw (sr [mv 3 0,oc 4 (.isNil false) 3 (.c (.slice true []))] 0 [0,4] (cd 4 (sr [ag 2 2] 0 [2] .ret) .skip)) (sr [on 5 (.dA 2 [] []) [],mv 6 0,ob 7 (.app 2 true) 5 6,mv 2 7] 0 [2] .ret)))
def kM:aA:=(sr [ag 2 4] 0 [0] (sw (sr [mv 3 0,oc 4 (.isNil false) 3 (.c (.slice true []))] 0 [0,4] (cd 4 (sr [ag 2 4] 0 [2] .ret) .skip)) (sr [on 5 (.dA 4 [] []) [],mv 6 0,ob 7 (.app 4 false) 5 6,mv 2 7] 0 [2] .ret)))
def al5:aA:=(sr [mk 4 (.c (.int .u64 0)),mk 5 (.c (.int .u64 0))] 0 [0,1] (sr [mv 14 0,oc 15 (.bin .and) 14 (.c (.int .u64 4294967295)),mv 6 15] 0 [0,1,6] (sr [mv 16 0,oc 17 (.shf .shr) 16 (.c (.int .u64 32)),mv 7 17] 0 [0,1,6,7] (sr [mv 18 1,oc 19 (.bin .and) 18 (.c (.int .u64 4294967295)),mv 8 19] 0 [0,1,6,7,8] (sr [mv 20 1,oc 21 (.shf .shr) 20 (.c (.int .u64 32)),mv 9 21] 0 [0,1,6,7,8,9] (sr [mv 22 6,mv 23 8,ob 24 pM 22 23,mv 10 24] 0 [0,1,6,7,8,9,10] (sr [mv 25 7,mv 26 8,ob 27 pM 25 26,mv 28 10,oc 29 (.shf .shr) 28 (.c (.int .u64 32)),ob 30 pA 27 29,mv 11 30] 0 [0,1,6,7,9,11] (sr [mv 31 11,oc 32 (.bin .and) 31 (.c (.int .u64 4294967295)),mv 12 32] 0 [0,1,6,7,9,11,12] (sr [mv 33 11,oc 34 (.shf .shr) 33 (.c (.int .u64 32)),mv 13 34] 0 [0,1,6,7,9,12,13] (sr [mv 35 12,mv 36 6,mv 37 9,ob 38 pM 36 37,ob 39 pA 35 38,mv 12 39] 0 [0,1,7,9,12,13] (sr [mv 40 7,mv 41 9,ob 42 pM 40 41,mv 43 13,ob 44 pA 42 43,mv 45 12,oc 46 (.shf .shr) 45 (.c (.int .u64 32)),ob 47 pA 44 46,mv 4 47] 0 [0,1,4] (sr [mv 48 0,mv 49 1,ob 50 pM 48 49,mv 5 50] 0 [4,5] .ret))))))))))))
def iM:aA:=(sr [mi 4 0] 0 [0,1] (sw (sr [mv 6 0,oa 7 .len 6,mi 8 0] 0 [0,1,7,8] (.block 0 (.loop (sr [ob 9 pL 8 7] 0 [0,1,7,8,9] (sw (cx 9 0) (sw (.block 1 (sr [mv 10 8,mv 5 10] 0 [0,1,5,7,8] (sr [mv 11 1,mv 12 0,mv 13 5,ix 14 2 12 13,lw 15 2 14,ob 16 .gJ 11 15] 0 [0,1,5,7,8,16] (cd 16 (sr [mv 17 5,mv 4 17] 0 [4] .ret) .skip)))) (rg [oi 18 pA 8 1,mv 8 18] 0 [0,1,7,8]))))))) (sr [mi 4 (-1)] 0 [4] .ret)))
def jT:aA:=(sw (r0 [ba 3 0 1,mi 4 0] 1 [0,3] [3]) (sw (sr [mv 6 0,oa 7 .len 6,mi 8 0] 0 [0,3,7,8] (.block 0 (.loop (sr [ob 9 pL 8 7] 0 [0,3,7,8,9] (sw (cx 9 0) (sw (.block 1 (sr [mv 10 8,mv 5 10] 0 [0,3,5,7,8] (sw (r1 [ou 11 (.load true 2) 3 1,mv 12 0,mv 13 5,ob1 14 (.bU 2) 12 13 1,ou 15 (.load true 2) 14 1,ob 16 (.A8 false [2,1]) 11 15] 0 [0,3,5,7,8,16] []) (cd 16 (sr [mv 17 5,mv 4 17] 0 [4] .ret) .skip)))) (rg [oi 18 pA 8 1,mv 8 18] 0 [0,3,7,8]))))))) (sr [mi 4 (-1)] 0 [4] .ret)))
def jK:aA:=(sr [mk 2 (.c (.slice true []))] 0 [0] (sr [mv 4 0,oa 5 (.call 330) 4,mv 3 5] 0 [3] (sr [mv 6 3,oa 7 (.call 331) 6] 0 [3] (sr [mv 8 3,mv 2 8] 0 [2] .ret))))
def uZ:aA:=(sw (r0 [ba 1 0 0,mk 2 (.c (.nilFunc))] 1 [1] [1]) (sr [oa 3 (.mkF (.func 332) 0) 1,mv 2 3] 0 [2] .ret))
def iT:aA:=(sr [mf 4 false] 0 [0,1] (sr [mv 5 0,mv 6 1,ob 7 (.aj 345) 5 6,oi 8 (.bin .geq) 7 0,mv 4 8] 0 [4] .ret))
def tH:aA:=(sr [mk 2 (.c (.slice true []))] 0 [0] (sr [mv 3 0,on 4 (.call 356) [.c (.slice true []),.t 3],mv 2 4] 0 [2] .ret))
def rG:aA:=(sr [lo 5 1,oa 6 .len 5,mi 7 0] 0 [0,5,6,7] (.block 0 (.loop (sr [ob 8 pL 7 6] 0 [0,5,6,7,8] (sw (cx 8 0) (sw (.block 1 (sr [ix 9 1 5 7,lo 10 9,mv 4 10] 0 [0,4,5,6,7] (sr [mv 11 0,mv 12 4,ob 13 .gJ 11 12,oa 14 pN 13] 0 [0,5,6,7,14] (cd 14 .ret .skip)))) (rg [oi 15 pA 7 1,mv 7 15] 0 [0,5,6,7])))))))
def jC:aA:=(sr [mi 4 0] 0 [0,1] (sw (sr [mv 6 0,oa 7 .len 6,mi 8 0] 0 [0,1,7,8] (.block 0 (.loop (sr [ob 9 pL 8 7] 0 [0,1,7,8,9] (sw (cx 9 0) (sw (.block 1 (sr [mv 10 8,mv 5 10] 0 [0,1,5,7,8] (sr [mv 11 1,mv 12 0,mv 13 5,ix 14 4 12 13,lw 15 4 14,ob 16 .gJ 11 15] 0 [0,1,5,7,8,16] (cd 16 (sr [mv 17 5,mv 4 17] 0 [4] .ret) .skip)))) (rg [oi 18 pA 8 1,mv 8 18] 0 [0,1,7,8]))))))) (sr [mi 4 (-1)] 0 [4] .ret)))
def qJ:aA:=(sr [ba 2 0 0,mk 4 (.c (.slice true []))] 1 [1,2,4] (sw (sr [mv 6 1] 0 [2,4,6] (.block 0 (.rM (.t 6) [7] [2] (rg [mv 5 7] 0 [2,5]) (.block 1 (rg [lo 8 2,mv 9 5,oa 10 (.dA 1 [z0] [0]) 9,ob 11 (.app 1 true) 8 10,sk 1 2 11 0] 0 []))))) (sr [lo 12 2,mv 4 12] 0 [4] .ret)))
def mX:aA:=(sr [mi 4 0,mf 5 false] 0 [0,1] (sr [mv 10 0,oa 11 .len 10,mv 6 11] 0 [0,1,6] (sr [mv 12 6,mi 7 0,mv 8 12] 0 [0,1,6,7,8] (sw (.block 0 (.loop (sw (sr [mv 13 7,mv 14 8,ob 15 pL 13 14] 0 [0,1,6,7,8,15] (cx 15 0)) (.block 1 (sr [mv 16 7,mv 17 8,ob 18 pA 16 17,oa 19 (.conv .u64) 18,oc 20 (.shf .shr) 19 (.c (.int .u64 1)),oa 21 (.conv .i64) 20,mv 9 21] 0 [0,1,6,7,8,9] (sr [mv 22 0,mv 23 9,ix 24 1 22 23,lo 25 24,mv 26 1,ob 27 (.aj 379) 25 26] 0 [0,1,6,7,8,9,27] (cd 27 (rg [mv 28 9,oi 29 pA 28 1,mv 7 29] 0 [0,1,6,7,8]) (rg [mv 30 9,mv 8 30] 0 [0,1,6,7,8])))))))) (sr [mv 31 7,mv 32 7,mv 33 6,ob 34 pL 32 33,mv 35 34,ov 36 .mov 0 35 0,ov 37 .mov 7 35 0,obT 38 (.bU 1) 36 37 35 0,ov 39 (.load false 1) 38 35 0,ov 40 .mov 1 35 0,obT 41 pE 39 40 35 0,ov 42 .mov 41 35 0,ow 43 .mov 0 42 0,ow 44 .mov 7 42 0,obF 45 (.bU 1) 43 44 42 0,lq 46 45 42,ow 47 (.aj 382) 46 42 0,ow 48 .mov 47 42 0,ov 49 .mov 1 48 0,ov 50 (.aj 382) 49 48 0,oF 51 .pick [.t 48,.t 50,.c (.bool false)] 42 0,ot 52 .pick [.t 42,.c (.bool true),.t 51] 35 0,pf 53 35 52,mv 4 31,mv 5 53] 0 [4,5] .ret)))))
def CQ:aA:=(sr [mf 4 false] 0 [0,1] (sr [mv 5 0,oa 6 (.aj 141) 5,mv 7 6,ov 8 .mov 1 7 0,ov 9 (.aj 141) 8 7 0,ov 10 pN 9 7 0,pf 11 7 10,mv 12 11,ow 13 .mov 0 12 0,ow 14 .mov 1 12 0,obF 15 pL 13 14 12 0,pt 16 12 15,mv 4 16] 0 [4] .ret))
def wL:aA:=(sr [mf 2 false] 0 [0] (sr [mv 3 0,mv 4 0,ob 5 pQ 3 4,mv 2 5] 0 [2] .ret))
end Go.Tel
namespace Go.Am
def dB {cs:List PV}:acf none cs= .agg cs:=rfl
def dh {cs:List PV}:YF none cs= .tup cs:=rfl
def kZ {nb na:Nat}{env:List (Nat×PV)}{m:Mem}{α:Type}{len i:Nat}{E:Nat->α->St}{P:Nat->α->Prop}(b:α)(hi:i<len)(hs:(⟨env,m⟩:St)=E (i+1) b)(d:P (i+1) b):
  ∃c a,c<len - i/\Weak nb na ⟨env,m⟩ a/\upJ len E P c a:=⟨len - (i+1),_,by omega, .inl rfl,i+1,b,by omega,rfl,hs,d⟩
end Go.Am
namespace Go.Tel
open Go.Am
structure Pr where
 a:Int
 b:Int
 deriving DecidableEq,Inhabited
structure Fr where
 n:Int
 d:Int
 deriving DecidableEq,Inhabited
structure Lk where
 fr:Int
 pr:Pr
 deriving DecidableEq,Inhabited
structure Pc where
 links:List Lk
 hands:List Int
 deriving DecidableEq,Inhabited
structure Fs where
 mv:Bool
 mo:Int
 da:Int
 af:Int
 deriving DecidableEq,Inhabited
structure Cal where
 ep:Int
 cy:List Int
 deriving DecidableEq,Inhabited
structure jg where
 n:Int
 d:Int
 ad:Int
 deriving DecidableEq,Inhabited
structure Dt where
 y:Int
 m:Int
 d:Int
 deriving DecidableEq,Inhabited
def Pr.dv (p:Pr):DV:= .agg [dI p.a,dI p.b]
def Fr.dv (p:Fr):DV:= .agg [dI p.n,dI p.d]
def Lk.dv (p:Lk):DV:= .agg [dI p.fr,dI p.pr.a,dI p.pr.b]
def Pc.dv (p:Pc):DV:= .agg [sF (p.links.map Lk.dv),sF (p.hands.map ay)]
def Fs.dv (f:Fs):DV:= .agg [.bool f.mv,dI f.mo,dI f.da,dI f.af]
def Cal.dv (c:Cal):DV:= .agg [dI c.ep,sF (c.cy.map ay)]
def jg.dv (m:jg):DV:= .agg [dI m.n,dI m.d,dI m.ad]
def Dt.dv (d:Dt):DV:= .agg [dI d.y,dI d.m,dI d.d]
def sJ {p:Pr}:p.dv= .agg [dI p.a,dI p.b]:=by rw[Pr.dv]
def dG {p:Fr}:p.dv= .agg [dI p.n,dI p.d]:=by rw[Fr.dv]
def Cj {p:Lk}:p.dv= .agg [dI p.fr,dI p.pr.a,dI p.pr.b]:=by rw[Lk.dv]
def jR {p:Pc}:p.dv= .agg [sF (p.links.map Lk.dv),sF (p.hands.map ay)]:=by rw[Pc.dv]
def MQ {f:Fs}:f.dv= .agg [.bool f.mv,dI f.mo,dI f.da,dI f.af]:=by rw[Fs.dv]
def mF {c:Cal}:c.dv= .agg [dI c.ep,sF (c.cy.map ay)]:=by rw[Cal.dv]
def pq {m:jg}:m.dv= .agg [dI m.n,dI m.d,dI m.ad]:=by rw[jg.dv]
def yT {d:Dt}:d.dv= .agg [dI d.y,dI d.m,dI d.d]:=by rw[Dt.dv]
section
variable {C:Ctx}{base:Nat}{K:PV->Mem->Prop}{KP:DV->Mem->Prop}{bs:List (Option (List PV))}{fz:List Nat}{ar:List (Option Arr)}
variable{k ver skip sz st:Nat}
def afx {xs:List DV}(h:ar[k]?=some (some ⟨sz,xs,ver,st⟩)):datum ⟨bs,fz,ar⟩ (.tsl k ver skip)=some (sF (xs.drop skip)):=by
 simp[datum,Mem.row,h]
def LM {f:FuncId}{xs:List DV}{x:DV}(h:ar[k]?=some (some ⟨sz,xs,ver,st⟩))(b:Pure C f [sF (xs.drop skip)] (.d x) [])(hx:Bo x=true)(a:K (.d x) ⟨bs,fz,ar⟩):
  ak C base (.iG f) [.tsl k ver skip] ⟨bs,fz,ar⟩ K KP:=by
 rw[aaN];exact⟨[sF (xs.drop skip)],by simp[cZ,afx h],x,by simpa[DV.strip]using b,hx,a⟩
end
variable{i:Nat}
def dP {α:Type}[Inhabited α]{l:List α}(h:i<l.length):l.take (i+1)=l.take i++ [l.getD i default]:=by
 rw[List.take_add_one];congr 1;rw[ai,ae h];rfl
variable{base:Nat}{M:Mem}{K:PV->Mem->Prop}{KP:DV->Mem->Prop}{k:IntKind}
def iP {C:Ctx}{sz:Nat}{xs:List DV}{n:Int}(hs:∀x∈xs,x.cells.length=sz)(a:0<=n)(h1:n<=xs.length):
  ak C base (.EC sz false true false) [.d (.slice false xs), .d (.int k n)] M K KP=K (.d (sF (xs.take n.toNat))) M:=by
 simp only[ak,wZ,dJ,Option.getD_none,Option.getD_some,true_and,ct,a,h1,Int.toNat_zero,cg,Bool.false_or,cb];simp;intro c x b;exact hs x b
def adN {ls:List Lk}:∀x∈ls.map Lk.dv,x.cells.length=3:=by intro x a;obtain⟨l,_,rfl⟩:=bo.1 a;rfl
def fits_int {n:Int}:DV.fits 1 (.int k n)=true:=rfl
variable{a b:Int}
def LQ:DV.fits 2 (.agg [dI a,dI b])=true:=rfl
def idx {α:Type}[DecidableEq α](v:α):List α->Nat->Int
 | [],_=> -1
 |x::xs,i=>if v=x then i else idx v xs (i+1)
def Ru {α:Type}[DecidableEq α](v:α):∀(xs:List α) (i:Nat),decide (idx v xs i>=0)=xs.contains v
 | [],i=>by simp[idx]
 |x::xs,i=>by
  simp only[idx,List.contains_cons]
  by_cases h:v=x
  ·simp[h]
  ·simp only[h,if_false,Ru v xs (i+1)]
   simp[h]
def xC {C:Ctx}{neq:Bool}{c d:Int}:ak C base (.A8 neq [1,1]) [.d (.agg [dI a,dI b]), .d (.agg [dI c,dI d])] M K KP=K (.d (.bool (((a==c)&&(b==d)) !=neq))) M:=by
 rw[Ib (t:=(a==c)&&(b==d))];simp[bG]
def J8 {b:Bool}:(b !=false)=b:=by cases b<;>rfl
def jM {α:Type}(p:α->Bool):List α->Nat->Int
 | [],_=> -1
 |x::xs,i=>if p x then i else jM p xs (i+1)
def ES {α:Type}(p:α->Bool):∀(xs:List α) (i:Nat),decide (jM p xs i>=0)=xs.any p
 | [],i=>by simp[jM]
 |x::xs,i=>by
  simp only[jM,ck]
  by_cases h:p x=true
  ·simp[h]
  ·have a:p x=false:=by simpa using h
   have:=ES p xs (i+1)
   simpa[a]using this
def AY {α:Type}(p:α->Bool):∀l:List α,(l.any fun w=> !p w)= !l.all p
 | []=>rfl
 |x::l=>by simp only[ck,bp,AY p l,Bool.not_and]
variable{f:FuncId}
def nG {C:Ctx}{fs cs ds ds':List DV}{args:List PV}{x:DV}(h1:gU args=some ds)(hc:callable C.P f=true)(h2:(fs++ds++cs).map DV.strip=ds')(e:Pure C f ds' (.d x) [])(a:K (.d x) M):
  ak C base .gJ (.d (.func (.func f) fs cs)::args) M K KP:=by
 refine⟨hc,uI (Jc ⟨fs++ds++cs,?_,x,h2▸e,a⟩)⟩;have b:args=ds.map .d:=EJ h1;have hd:∀l:List DV,gU (l.map .d)=some l:=by
  intro l;induction l with
  |nil=>rfl
  |cons c l g=>simp[gU,g]
 rw[b,<-aE,<-aE,hd]
def getD_mem {α:Type}[Inhabited α]{l:List α}(h:i<l.length):l.getD i default∈l:=by
 rw[ai,ae h];exact be h
def Fq (n:Int)(g:Int):(n.tdiv g).natAbs<=n.natAbs:=by
 rw[Int.natAbs_tdiv];exact bi _ _
def UL (xs:List Int)(fn:FuncId)(b:List DV)(p:Int->Bool)(hl:xs.length<=1000000)(hc:callable C.P fn=true)(g:∀x∈xs,Pure C fn ([(ay x).strip]++b.map DV.strip) (.d (.bool (p x))) []):
  Pure C 193 [sF (xs.map ay), .func (.func fn) [] b] (pI (jM p xs 0)) []:=by
 refine ah qK aQ ?_;simp only[qK,aQ,ab,RN,J,N,S,U,V,W];refine aG xs.length (fun i (_:Unit)=>⟨[(0, .d (sF (xs.map ay))),(1, .d (.func (.func fn) [] b)),(7,pI xs.length),(8,pI i)],⟨[],[],[]⟩⟩)
  (fun i _=>jM p xs 0=jM p (xs.drop i) i) 0 () (bl _) rfl rfl (fun i _ h1 a=> ?_) (fun _ a=> ?_)
 ·obtain⟨h2,e,f⟩:=rng h1 hl
  rw[drop_cons h1,jM]at a;have j:=g (xs.getD i default) (by rw[ai,ae h1];exact be h1);simp only[h2,e,h1,getD_map,an,ab,aZ,RN,J,N,S,U,V,W];refine nG rfl hc (by simp only[aM,aE,ao,aw,aZ]) j ?_;cases c:p (xs.getD i default)
  ·simp only[f,RN,J,N,S,U,V,W]
   exact dX () h1 rfl (by rw[if_neg (fun h=>by rw[c]at h;cases h)]at a;exact a) (by simp) (by simp) rfl rfl
  ·(try simp only[RN,J,N,S,U,V,W])
   rw[a,if_pos c]
 ·rw[az,jM]at a
  simp only[aR,a,RN,J,N,S,U,V,W]
def mD (xs:List Int)(fn:FuncId)(a:List DV)(p:Int->Bool)(hl:xs.length<=1000000)(hc:callable C.P fn=true)(c:∀x∈xs,Pure C fn ([(ay x).strip]++a.map DV.strip) (.d (.bool (p x))) []):
  Pure C 127 [sF (xs.map ay), .func (.func fn) [] a] (.d (.bool (xs.any p))) []:=by
 have b:=UL xs fn a p hl hc c;refine ah mY aQ ?_;simp only[mY,aQ,RN,J,N,S,U,V,W];refine au b ?_;simp only[ES,RN,J,N,S,U,V,W]
def XQ (xs:List Pr)(fn:FuncId)(b:List DV)(p:Pr->Bool)(hl:xs.length<=1000000)(hc:callable C.P fn=true)(g:∀x∈xs,Pure C fn ([(Pr.dv x).strip]++b.map DV.strip) (.d (.bool (p x))) []):
  Pure C 140 [sF (xs.map Pr.dv), .func (.func fn) [] b] (pI (jM p xs 0)) []:=by
 refine ah jD aQ ?_;simp only[jD,aQ,ab,RN,J,N,S,U,V,W];refine aG xs.length (fun i (_:Unit)=>⟨[(0, .d (sF (xs.map Pr.dv))),(1, .d (.func (.func fn) [] b)),(7,pI xs.length),(8,pI i)],⟨[],[],[]⟩⟩)
  (fun i _=>jM p xs 0=jM p (xs.drop i) i) 0 () (bl _) rfl rfl (fun i _ h1 a=> ?_) (fun _ a=> ?_)
 ·obtain⟨h2,e,f⟩:=rng h1 hl
  rw[drop_cons h1,jM]at a;have j:=g (xs.getD i default) (by rw[ai,ae h1];exact be h1);simp only[h2,e,h1,getD_map,an,ab,sJ,RN,J,N,S,U,V,W];refine nG rfl hc (by simp only[aM,aE,ao,aw,sJ]) j ?_;cases c:p (xs.getD i default)
  ·simp only[f,RN,J,N,S,U,V,W]
   exact dX () h1 rfl (by rw[if_neg (fun h=>by rw[c]at h;cases h)]at a;exact a) (by simp) (by simp) rfl rfl
  ·(try simp only[RN,J,N,S,U,V,W])
   rw[a,if_pos c]
 ·rw[az,jM]at a
  simp only[aR,a,RN,J,N,S,U,V,W]
def OO (xs:List Pr)(fn:FuncId)(a:List DV)(p:Pr->Bool)(hl:xs.length<=1000000)(hc:callable C.P fn=true)(c:∀x∈xs,Pure C fn ([(Pr.dv x).strip]++a.map DV.strip) (.d (.bool (p x))) []):
  Pure C 71 [sF (xs.map Pr.dv), .func (.func fn) [] a] (.d (.bool (xs.any p))) []:=by
 have b:=XQ xs fn a p hl hc c;refine ah iU aQ ?_;simp only[iU,aQ,RN,J,N,S,U,V,W];refine au b ?_;simp only[ES,RN,J,N,S,U,V,W]
def XO (xs:List Fr)(fn:FuncId)(b:List DV)(p:Fr->Bool)(hl:xs.length<=1000000)(hc:callable C.P fn=true)(g:∀x∈xs,Pure C fn ([(Fr.dv x).strip]++b.map DV.strip) (.d (.bool (p x))) []):
  Pure C 271 [sF (xs.map Fr.dv), .func (.func fn) [] b] (pI (jM p xs 0)) []:=by
 refine ah iM aQ ?_;simp only[iM,aQ,ab,RN,J,N,S,U,V,W];refine aG xs.length (fun i (_:Unit)=>⟨[(0, .d (sF (xs.map Fr.dv))),(1, .d (.func (.func fn) [] b)),(7,pI xs.length),(8,pI i)],⟨[],[],[]⟩⟩)
  (fun i _=>jM p xs 0=jM p (xs.drop i) i) 0 () (bl _) rfl rfl (fun i _ h1 a=> ?_) (fun _ a=> ?_)
 ·obtain⟨h2,e,f⟩:=rng h1 hl
  rw[drop_cons h1,jM]at a;have j:=g (xs.getD i default) (by rw[ai,ae h1];exact be h1);simp only[h2,e,h1,getD_map,an,ab,dG,RN,J,N,S,U,V,W];refine nG rfl hc (by simp only[aM,aE,ao,aw,dG]) j ?_;cases c:p (xs.getD i default)
  ·simp only[f,RN,J,N,S,U,V,W]
   exact dX () h1 rfl (by rw[if_neg (fun h=>by rw[c]at h;cases h)]at a;exact a) (by simp) (by simp) rfl rfl
  ·(try simp only[RN,J,N,S,U,V,W])
   rw[a,if_pos c]
 ·rw[az,jM]at a
  simp only[aR,a,RN,J,N,S,U,V,W]
def OL (xs:List Fr)(fn:FuncId)(a:List DV)(p:Fr->Bool)(hl:xs.length<=1000000)(hc:callable C.P fn=true)(c:∀x∈xs,Pure C fn ([(Fr.dv x).strip]++a.map DV.strip) (.d (.bool (p x))) []):
  Pure C 211 [sF (xs.map Fr.dv), .func (.func fn) [] a] (.d (.bool (xs.any p))) []:=by
 have b:=XO xs fn a p hl hc c;refine ah gY aQ ?_;simp only[gY,aQ,RN,J,N,S,U,V,W];refine au b ?_;simp only[ES,RN,J,N,S,U,V,W]
def XP (xs:List Fs)(fn:FuncId)(b:List DV)(p:Fs->Bool)(hl:xs.length<=1000000)(hc:callable C.P fn=true)(g:∀x∈xs,Pure C fn ([(Fs.dv x).strip]++b.map DV.strip) (.d (.bool (p x))) []):
  Pure C 345 [sF (xs.map Fs.dv), .func (.func fn) [] b] (pI (jM p xs 0)) []:=by
 refine ah jC aQ ?_;simp only[jC,aQ,ab,RN,J,N,S,U,V,W];refine aG xs.length (fun i (_:Unit)=>⟨[(0, .d (sF (xs.map Fs.dv))),(1, .d (.func (.func fn) [] b)),(7,pI xs.length),(8,pI i)],⟨[],[],[]⟩⟩)
  (fun i _=>jM p xs 0=jM p (xs.drop i) i) 0 () (bl _) rfl rfl (fun i _ h1 a=> ?_) (fun _ a=> ?_)
 ·obtain⟨h2,e,f⟩:=rng h1 hl
  rw[drop_cons h1,jM]at a;have j:=g (xs.getD i default) (by rw[ai,ae h1];exact be h1);simp only[h2,e,h1,getD_map,an,ab,MQ,RN,J,N,S,U,V,W];refine nG rfl hc (by simp only[aM,aE,ao,aw,MQ]) j ?_;cases c:p (xs.getD i default)
  ·simp only[f,RN,J,N,S,U,V,W]
   exact dX () h1 rfl (by rw[if_neg (fun h=>by rw[c]at h;cases h)]at a;exact a) (by simp) (by simp) rfl rfl
  ·(try simp only[RN,J,N,S,U,V,W])
   rw[a,if_pos c]
 ·rw[az,jM]at a
  simp only[aR,a,RN,J,N,S,U,V,W]
def OM (xs:List Fs)(fn:FuncId)(a:List DV)(p:Fs->Bool)(hl:xs.length<=1000000)(hc:callable C.P fn=true)(c:∀x∈xs,Pure C fn ([(Fs.dv x).strip]++a.map DV.strip) (.d (.bool (p x))) []):
  Pure C 310 [sF (xs.map Fs.dv), .func (.func fn) [] a] (.d (.bool (xs.any p))) []:=by
 have b:=XP xs fn a p hl hc c;refine ah iT aQ ?_;simp only[iT,aQ,RN,J,N,S,U,V,W];refine au b ?_;simp only[ES,RN,J,N,S,U,V,W]
def Nu (xs:List Int)(v:Int)(hl:xs.length<=1000000):Pure C 196 [sF (xs.map ay),dI v] (pI (idx v xs 0)) []:=by
 refine ah wK aQ ?_;simp only[wK,aQ,aZ,ab,RN,J,N,S,U,V,W];refine aG xs.length (fun i (_:Unit)=>⟨[(0, .d (sF (xs.map ay))),(1,pI v),(7,pI xs.length),(8,pI i)],⟨[],[],[]⟩⟩) (fun i _=>idx v xs 0=idx v (xs.drop i) i) 0 () (bl _) rfl rfl (fun i _ h1 a=> ?_) (fun _ a=> ?_)
 ·obtain⟨h2,c,e⟩:=rng h1 hl
  rw[drop_cons h1,idx]at a;cases b:(v==xs.getD i default)
  ·simp only[h2,c,h1,e,b,aZ,getD_map,an,ab,RN,J,N,S,U,V,W]
   exact dX () h1 rfl (by rw[if_neg (by simpa using b)]at a;exact a) (by simp) (by simp) rfl rfl
  ·simp only[h2,c,h1,b,aZ,getD_map,an,ab,RN,J,N,S,U,V,W]
   rw[a,if_pos (by simpa using b)]
 ·rw[az,idx]at a
  simp only[aR,a,RN,J,N,S,U,V,W]
def zC (xs:List Int)(v:Int)(hl:xs.length<=1000000):Pure C 131 [sF (xs.map ay),dI v] (.d (.bool (xs.contains v))) []:=by
 have a:=Nu xs v hl;refine ah rF aQ ?_;simp only[rF,aQ,RN,J,N,S,U,V,W];refine au a ?_;simp only[Ru,RN,J,N,S,U,V,W]
def Ei:aA:=(sr [al 2 0 [z0,z0],mf 3 false,mi 4 0] 1 [0,2] (sw (sr [mv 5 0,oa 6 (.aj 45) 5,oa 7 pN 6] 0 [0,2,7] (cd 7 (sr [on 8 (.build [z0,z0] []) [],sk 2 2 8 0,mf 3 false,mi 4 2] 0 [2,3,4] .ret) .skip)) (sr [mv 9 0,oa 10 (.aj 46) 9,mv 11 0,oa 12 .len 11,oi 13 (.bin .rem) 12 2,oi 14 pE 13 0,sk 2 2 10 0,mv 3 14,mi 4 0] 0 [2,3,4] .ret)))
def Ar:aA:=(sr [mf 2 false] 0 [0] (sr [mv 3 0,oa 4 .len 3,on 5 (.aj 108) [.t 4,kI 1,kI 3],mv 6 5,ov 7 .mov 0 6 0,ot 8 (.aj 71) [.t 7,.c (.func (.func 109) [] [])] 6 0,ov 9 pN 8 6 0,pf 10 6 9,mv 2 10] 0 [2] .ret))
def Ej:aA:=(sr [al 2 0 [z0,z0]] 1 [0,2] (sr [ag 3 1,ag 4 1] 0 [0,2,3,4] (sw (sr [mv 7 0,oa 8 .len 7,mi 9 0] 0 [2,3,4,7,8,9] (.block 0 (.loop (sr [ob 10 pL 9 8] 0 [2,3,4,7,8,9,10] (sw (cx 10 0) (sw (.block 1 (sw (r0 [ix 11 2 7 9,lw 12 2 11,al 6 0 [z0,z0],sk 2 6 12 0] 1 [2,3,4,6,7,8,9] [6]) (r1 [mv 13 3,fu 14 0 6 1,lv 15 14,ou 16 (.dA 1 [z0] [0]) 15 1,ob 17 (.app 1 false) 13 16,mv 18 4,fu 19 1 6 1,lv 20 19,ou 21 (.dA 1 [z0] [0]) 20 1,ob 22 (.app 1 false) 18 21,mv 3 17,mv 4 22] 0 [2,3,4,7,8,9] []))) (rg [oi 23 pA 9 1,mv 9 23] 0 [2,3,4,7,8,9]))))))) (sr [mv 24 3,oa 25 (.iG 112) 24,mv 26 4,oa 27 (.iG 112) 26,ob 28 (.aj 111) 25 27,sk 2 2 28 0] 0 [2] .ret))))
def wM:aA:=(sw (r0 [ba 1 0 0,mf 2 false] 1 [1] [1]) (sr [fa 3 0 1,lo 4 3,on 5 (.aj 108) [.t 4,kI 0,kI 50000],mv 6 5,ov 7 (.fld 1) 1 6 0,ov 8 (.load false 1) 7 6 0,ot 9 (.aj 108) [.t 8,kI 1,kI 50000] 6 0,pf 10 6 9,mv 2 10] 0 [2] .ret))
def Ap:aA:=(sw (r0 [ba 2 0 0,ba 3 1 1,mi 4 0] 2 [2,3] [2,3]) (sr [fa 5 0 2,lo 6 5,fa 7 1 3,lo 8 7,ob 9 pM 6 8,fa 10 0 3,lo 11 10,fa 12 1 2,lo 13 12,ob 14 pM 11 13,ob 15 pU 9 14,mv 4 15] 0 [4] .ret))
def KY:aA:=(sr [mf 6 false] 0 [0,1,2] (sr [mv 7 0,mv 8 1,ob 9 (.bin .geq) 7 8,mv 10 9,ov 11 .mov 0 10 0,ov 12 .mov 2 10 0,obT 13 (.bin .leq) 11 12 10 0,pf 14 10 13,mv 6 14] 0 [6] .ret))
def yG:aA:=(sw (r0 [ba 1 0 0,mf 2 false] 1 [1] [1]) (sr [fa 3 0 1,lo 4 3,oa 5 (.aj 110) 4,oa 6 pN 5,mv 7 6,ow 8 (.fld 1) 1 7 0,lq 9 8 7,ow 10 (.aj 110) 9 7 0,ow 11 pN 10 7 0,pt 12 7 11,mv 2 12] 0 [2] .ret))
def Aq:aA:=(sr [mf 2 false] 0 [0] (sr [mv 3 0,on 4 (.aj 108) [.t 3,kI 4,kI 60],mv 2 4] 0 [2] .ret))
def Aw:aA:=(sr [al 4 0 [z0,z0]] 1 [0,1,4] (sr [mv 6 0,mv 7 1,ob 8 (.aj 171) 6 7,mv 5 8] 0 [0,1,4,5] (sw (r1 [mv 9 0,mv 10 5,ob 11 (.bin .quo) 9 10,mv 12 1,mv 13 5,ob 14 (.bin .quo) 12 13,ob 15 (.build [z0,z0] [(0,1),(1,1)]) 11 14,sk 2 4 15 0] 0 [4] []) .ret)))
def Au:aA:=(sr [mi 2 0] 0 [0] (sr [mi 3 1] 0 [0,3] (sw (sr [mv 6 0,oa 7 .len 6,mi 8 0] 0 [3,6,7,8] (.block 0 (.loop (sr [ob 9 pL 8 7] 0 [3,6,7,8,9] (sw (cx 9 0) (sw (.block 1 (sr [ix 10 1 6 8,lo 11 10,mv 5 11] 0 [3,5,6,7,8] (rg [mv 12 3,mv 13 5,ob 14 pM 12 13,mv 3 14] 0 [3,6,7,8]))) (rg [oi 15 pA 8 1,mv 8 15] 0 [3,6,7,8]))))))) (sr [mv 16 3,mv 2 16] 0 [2] .ret))))
def I4:aA:=(sr [mi 4 0] 0 [0,1] (sw (.block 0 (.loop (sw (sr [mv 5 1,oi 6 pG 5 0] 0 [0,1,6] (cx 6 0)) (.block 1 (r1 [mv 7 1,mv 8 0,mv 9 1,ob 10 (.bin .rem) 8 9,mv 0 7,mv 1 10] 0 [0,1] []))))) (sr [mv 11 0,mv 4 11] 0 [4] .ret)))
def IZ:aA:=(sw (r0 [ba 4 0 1,mi 6 0,mi 7 0] 1 [0,2,4] [4]) (sw (sr [mv 9 0,oa 10 (.aj 45) 9,oa 11 pN 10,mv 12 11,ow 13 (.load true 2) 4 12 0,ow 14 (.aj 64) 13 12 0,ow 15 pN 14 12 0,pt 16 12 15,mv 17 16,ow 18 .mov 2 17 0,ow 19 (.aj 358) 18 17 0,ow 20 pN 19 17 0,pt 21 17 20] 0 [0,2,4,21] (cd 21 (sr [mi 6 0,mi 7 2] 0 [6,7] .ret) .skip)) (sw (r0 [mv 22 0,lw 23 2 4,ob 24 (.aj 359) 22 23,al 8 0 [z0,z0],sk 2 8 24 0] 1 [2,8] [8]) (sr [fa 25 0 8,lo 26 25,mv 27 2,ob 28 pM 26 27,fa 29 1 8,lo 30 29,ob 31 (.bin .quo) 28 30,mv 6 31,mi 7 0] 0 [6,7] .ret))))
def Dh:aA:=(sr [mf 2 false] 0 [0] (sr [mv 3 0,on 4 (.aj 108) [.t 3,kI 0,kI 10000],mv 2 4] 0 [2] .ret))
def Az:aA:=(sw (r0 [ba 3 0 1,al 4 1 [z0,z0]] 2 [0,3,4] [3]) (sw (r0 [mv 6 0,oa 7 (.aj 46) 6,al 5 0 [z0,z0],sk 2 5 7 0] 1 [3,4,5] [5]) (sw (r1 [ou 8 (.load true 2) 5 1,ou 9 (.load true 2) 3 1,ob 10 (.aj 76) 8 9,oi 11 pM 10 21600,fu 12 1 5 1,lv 13 12,fu 14 1 3 1,lv 15 14,ob 16 pM 13 15,ob 17 (.build [z0,z0] [(0,1),(1,1)]) 11 16,sk 2 4 17 0] 0 [4] []) .ret)))
def bH (n:Int):Bool:=inR n 4 60
def Pr.ok (p:Pr):Bool:=bH p.a&&bH p.b
def Fr.ok (f:Fr):Bool:=inR f.n 0 50000&&inR f.d 1 50000
def pO (l:List Pr):Bool:=inR l.length 1 3&&l.all Pr.ok
def Yr (n d:Nat):Fr:=⟨(n / ax n d:Nat),(d / ax n d:Nat)⟩
def lI:List Int->Int->Int
 | [],p=>p
 |x::xs,p=>lI xs (p*x)
def kY (l:List Pr):Fr:=Yr (lI (l.map (·.a)) 1).natAbs (lI (l.map (·.b)) 1).natAbs
def Xi (a b:Fr):Int:=a.n*b.d - b.n*a.d
def lT (l:List Pr)(f:Fr):Fr:=⟨Xi (kY l) f*21600,(kY l).d*f.d⟩
def akx (l:List Pr)(f:Fr)(turns:Int):Int:=((lT l f).n*turns).tdiv (lT l f).d
def abn (l:List Pr)(f:Fr)(turns:Int):Int×Int:=if pO l&&f.ok&&inR turns 0 10000 then(akx l f turns,0)else(0,2)
def xM (n l h:Int)(hc:zL C.P f 3 KY iH=true:=by kernel_rfl):Pure C f [dI n,dI l,dI h] (.d (.bool (inR n l h))) []:=by
 refine Gl mixed rfl hc ?_
 by_cases h1:n>=l<;>simp only[h1,inR,KY,iH,cb,RN,J,N,S,U,V,W]
def Zy (n l h:Int):Pure C 108 [dI n,dI l,dI h] (.d (.bool (inR n l h))) []:=xM n l h
def ae3 (n:Int):Pure C 110 [dI n] (.d (.bool (bH n))) []:=by
 refine ah Aq aS ?_;simp only[Aq,aS,RN,J,N,S,U,V,W]
 repeat' first
  |(refine au (Zy _ _ _) ?_;try simp only[RN,J,N,S,U,V,W])
  |(refine aH (by rfl) (fun a=> ?_) (fun a=> ?_)<;>simp only[a,RN,J,N,S,U,V,W])
  |(refine aP (by rfl) (fun a=> ?_) (fun a=> ?_)<;>simp only[a,RN,J,N,S,U,V,W])
 all_goals(first|(simp only[bH, *,BSN];done)|(simp_all[bH];done)|(simp_all[bH];omega))
def ag9 (n:Int):Pure C 358 [dI n] (.d (.bool (inR n 0 10000))) []:=by
 refine ah Dh aS ?_;simp only[Dh,aS,RN,J,N,S,U,V,W]
 repeat' first
  |(refine au (Zy _ _ _) ?_;try simp only[RN,J,N,S,U,V,W])
  |(refine aH (by rfl) (fun a=> ?_) (fun a=> ?_)<;>simp only[a,RN,J,N,S,U,V,W])
  |(refine aP (by rfl) (fun a=> ?_) (fun a=> ?_)<;>simp only[a,RN,J,N,S,U,V,W])
 all_goals(first|(simp only[inR, *,BSN];done)|(simp_all[inR];done)|(simp_all[inR];omega))
def ag8 (f:Fr):Pure C 64 [f.dv] (.d (.bool f.ok)) []:=by
 refine ah wM aS ?_;simp only[wM,aS,dG,RN,J,N,S,U,V,W]
 repeat' first
  |(refine au (Zy _ _ _) ?_;try simp only[dG,RN,J,N,S,U,V,W])
  |(refine aH (by rfl) (fun a=> ?_) (fun a=> ?_)<;>simp only[a,dG,RN,J,N,S,U,V,W])
  |(refine aP (by rfl) (fun a=> ?_) (fun a=> ?_)<;>simp only[a,dG,RN,J,N,S,U,V,W])
 all_goals(first|(simp only[Fr.ok, *,BSN];done)|(simp_all[Fr.ok];done)|(simp_all[Fr.ok];omega))
def U0 (p:Pr):Pure C 109 [p.dv] (.d (.bool (!p.ok))) []:=by
 refine ah yG aS ?_;simp only[yG,aS,sJ,RN,J,N,S,U,V,W]
 repeat' first
  |(refine au (ae3 _) ?_;try simp only[sJ,RN,J,N,S,U,V,W])
  |(refine aH (by rfl) (fun a=> ?_) (fun a=> ?_)<;>simp only[a,sJ,RN,J,N,S,U,V,W])
  |(refine aP (by rfl) (fun a=> ?_) (fun a=> ?_)<;>simp only[a,sJ,RN,J,N,S,U,V,W])
 all_goals(first|(simp only[Pr.ok, *,BSN];done)|(simp_all[Pr.ok];done)|(simp_all[Pr.ok];omega))
def PW (l:List Pr)(hl:l.length<=1000000):Pure C 45 [sF (l.map Pr.dv)] (.d (.bool (pO l))) []:=by
 refine ah Ar aS ?_;simp only[Ar,aS,ab,RN,J,N,S,U,V,W]
 repeat' first
  |(refine au (Zy _ _ _) ?_;try simp only[ab,RN,J,N,S,U,V,W])
  |(refine fG rfl rfl (OO l _ [] (fun p=> !p.ok) hl (by kernel_rfl) (fun p _=>U0 p)) ?_;try simp only[ab,RN,J,N,S,U,V,W])
  |(refine aH (by rfl) (fun a=> ?_) (fun a=> ?_)<;>simp only[a,ab,RN,J,N,S,U,V,W])
  |(refine aP (by rfl) (fun a=> ?_) (fun a=> ?_)<;>simp only[a,ab,RN,J,N,S,U,V,W])
 all_goals(first|(rw[AY])|skip)
 all_goals(first|(simp only[pO, *,BSN];done)|(simp_all[pO];done)|(simp_all[pO];omega))
def ajn (a b:Nat):Pure C 171 [dI a,dI b] (pI (ax a b)) []:=by
 refine ah I4 aQ ?_;simp only[I4,aQ,RN,J,N,S,U,V,W];refine qM (fun(q:Nat×Nat)=>⟨[(0,pI q.1),(1,pI q.2)],⟨[],[],[]⟩⟩) (fun q=>ax q.1 q.2=ax a b) (fun q=>q.2) (a,b) rfl rfl (fun q e=> ?_)
 by_cases g:q.2=0
 ·have c:¬((q.2:Int)>0):=by omega
  simp only[c,RN,J,N,S,U,V,W];rw[<-e,g,Nat.gcd_zero_right]
 ·have c:((q.2:Int)>0):=by omega
  have d:((q.2:Int)≠0):=by omega
  have f:(q.1:Int).tmod (q.2:Int)=((q.1 % q.2:Nat):Int):=(Int.ofNat_tmod q.1 q.2).symm;simp only[c,d,f,RN,J,N,S,U,V,W];exact ZF (q.2,q.1 % q.2) (Nat.mod_lt _ (by omega)) rfl (by simp only;rw[cp,<-Nat.gcd_rec,cp];exact e) (by simp) (by simp) rfl rfl
def Y9 {n:Nat}(h:n<=9223372036854775807):cw .i64 (n:Int)=n:=aF (by omega)
def abB (a b:Nat)(j:a<=4611686018427387904)(hb:b<=4611686018427387904)(h:0<b):Pure C 111 [dI a,dI b] (.d (Yr a b).dv) []:=by
 refine ah Aw Ll ?_;have i:((ax a b:Nat):Int)≠0:=by
  have:0<ax a b:=bz _ h;omega
 have c:(a:Int).tdiv (ax a b:Nat)=((a / ax a b:Nat):Int):=(ce a _).symm;have e:(b:Int).tdiv (ax a b:Nat)=((b / ax a b:Nat):Int):=(ce b _).symm;have f:cw .i64 ((a:Int).tdiv (ax a b:Nat))=((a / ax a b:Nat):Int):=by
  rw[c];exact Y9 (bu (bi _ _) (by omega))
 have g:cw .i64 ((b:Int).tdiv (ax a b:Nat))=((b / ax a b:Nat):Int):=by
  rw[e];exact Y9 (bu (bi _ _) (by omega))
 simp only[Aw,Ll,RN,J,N,S,U,V,W];refine au (ajn a b) ?_;simp only[i,f,g,dG,Yr,RN,J,N,S,U,V,W]
def NV:∀(l:List Int) (p:Int) (k:Nat),(∀x∈l,1<=x/\x<=60)->1<=p->p<=60 ^ k->1<=lI l p/\lI l p<=60 ^ (k+l.length)
 | [],p,k,_,h1,h2=>⟨h1,h2⟩
 |x::l,p,k,h,h1,h2=>by
  obtain⟨a,b⟩:=h x (by simp);have d:1<=p*x:=by
   have:=ap h1 a (by omega) (by omega);omega
  have e:p*x<=60 ^ (k+1):=by
   rw[Int.pow_succ];exact ap h2 b (by omega) (bX (by omega) h2)
  obtain⟨r1,r2⟩:=NV l (p*x) (k+1) (fun y c=>h y (by simp[c])) d e;refine⟨r1,?_⟩;rw[b6,show k+(l.length+1)=k+1+l.length by omega];exact r2
def NW:∀(l:List Int) (p:Int),(∀x∈l,1<=x)->1<=p->p<=lI l p
 | [],p,_,_=>ct p
 |x::l,p,h,b=>by
  have c:p*1<=p*x:=Int.mul_le_mul_of_nonneg_left (h x (by simp)) (by omega);have:=NW l (p*x) (fun y a=>h y (by simp[a])) (by omega);simp only[lI];omega
def Ql (l:List Int)(hl:l.length<=1000000)(hx:∀x∈l,1<=x)(hb:lI l 1<=9223372036854775807):Pure C 112 [sF (l.map ay)] (pI (lI l 1)) []:=by
 refine ah Au aS ?_;simp only[Au,aS,ab,RN,J,N,S,U,V,W];refine aG l.length (fun i (p:Int)=>⟨[(3,pI p),(6, .d (sF (l.map ay))),(7,pI l.length),(8,pI i)],⟨[],[],[]⟩⟩)
  (fun i p=>1<=p/\lI l 1=lI (l.drop i) p) 0 1 (bl _) rfl ⟨by omega,rfl⟩ (fun i p h1 a=> ?_) (fun p a=> ?_)
 ·obtain⟨h2,g,h⟩:=rng h1 hl
  obtain⟨c,a⟩:=a;rw[drop_cons h1,lI]at a;have b:=hx _ (getD_mem h1);have e:1<=p*l.getD i default:=by
   have:=ap c b (by omega) (by omega);omega
  have k:=NW (l.drop (i+1)) (p*l.getD i default) (fun y j=>hx y (List.mem_of_mem_drop j)) e;have f:cw .i64 (p*l.getD i default)=p*l.getD i default:=aF (by omega);simp only[h2,g,h1,h,aZ,getD_map,an,ab,f,RN,J,N,S,U,V,W];exact dX (p*l.getD i default) h1 rfl ⟨e,a⟩ (by simp) (by simp) rfl rfl
 ·obtain⟨c,a⟩:=a
  rw[az,lI]at a;simp only[aR,a,RN,J,N,S,U,V,W]
variable{l:List Pr}
def zJ (h:pO l=true):1<=l.length/\l.length<=3/\∀p∈l,(4<=p.a/\p.a<=60)/\4<=p.b/\p.b<=60:=by
 simp only[pO,inR,Z,decide_eq_true_eq,bc,ge_iff_le,Pr.ok,bH]at h;exact⟨by omega,by omega,h.2⟩
def V6 (hl:l.length<=3)(h:∀p∈l,(4<=p.a/\p.a<=60)/\4<=p.b/\p.b<=60):(1<=lI (l.map (·.a)) 1/\lI (l.map (·.a)) 1<=216000)/\1<=lI (l.map (·.b)) 1/\lI (l.map (·.b)) 1<=216000:=by
 have e:∀k:Nat,k<=3->(60:Int) ^ k<=216000:=by
  intro k f
  match k,f with
  |0,_=>decide
  |1,_=>decide
  |2,_=>decide
  |3,_=>decide
 constructor
 ·obtain⟨a,b⟩:=NV (l.map (·.a)) 1 0 (fun x d=>by obtain⟨p,c,rfl⟩:=bo.1 d;have:=h p c;omega) (by omega) (by decide)
  exact⟨a,bX b (e _ (by simpa using hl))⟩
 ·obtain⟨a,b⟩:=NV (l.map (·.b)) 1 0 (fun x d=>by obtain⟨p,c,rfl⟩:=bo.1 d;have:=h p c;omega) (by omega) (by decide)
  exact⟨a,bX b (e _ (by simpa using hl))⟩
def agL (a b:Nat)(h:0<b):(0<=(Yr a b).n/\(Yr a b).n<=a)/\1<=(Yr a b).d/\(Yr a b).d<=b:=by
 have h1:=bi a (ax a b);have h2:=bi b (ax a b);have c:0<b / ax a b:=Nat.div_pos (Nat.le_of_dvd h (Nat.gcd_dvd_right a b)) (bz _ h);exact⟨⟨Int.natCast_nonneg _,b3.2 h1⟩,b3.2 c,b3.2 h2⟩
def QI (hl:l.length<=3)(h:∀p∈l,(4<=p.a/\p.a<=60)/\4<=p.b/\p.b<=60):(0<=(kY l).n/\(kY l).n<=216000)/\1<=(kY l).d/\(kY l).d<=216000:=by
 obtain⟨⟨c,e⟩,f,g⟩:=V6 hl h;have:=agL (lI (l.map (·.a)) 1).natAbs (lI (l.map (·.b)) 1).natAbs (by omega);simp only[kY];omega
def ZB (l:List Pr)(hl:l.length<=3)(h:∀p∈l,(4<=p.a/\p.a<=60)/\4<=p.b/\p.b<=60):Pure C 46 [sF (l.map Pr.dv)] (.d (kY l).dv) []:=by
 obtain⟨⟨t,u⟩,w,y⟩:=V6 hl h;have j:=Ql (l.map (·.a)) (by simp;omega) (fun x m=>by obtain⟨p,g,rfl⟩:=bo.1 m;have:=h p g;omega) (by omega);have k:=Ql (l.map (·.b)) (by simp;omega) (fun x m=>by obtain⟨p,g,rfl⟩:=bo.1 m;have:=h p g;omega) (by omega);obtain⟨na,e⟩:∃n:Nat,lI (l.map (·.a)) 1=n:=⟨(lI (l.map (·.a)) 1).toNat,by omega⟩
 obtain⟨nb,f⟩:∃n:Nat,lI (l.map (·.b)) 1=n:=⟨(lI (l.map (·.b)) 1).toNat,by omega⟩
 refine ah Ej ahB ?_;simp only[Ej,ahB,ab,RN,J,N,S,U,V,W];refine aG l.length (fun i (v:Nat)=>⟨[(2, .ptr 0 0),(3, .tsl 0 v 0),(4, .tsl 1 v 0),(7, .d (sF (l.map Pr.dv))),(8,pI l.length),(9,pI i)],
   ⟨[some [pI 0,pI 0]],[],[some ⟨1,((l.take i).map (·.a)).map ay,v,0⟩,some ⟨1,((l.take i).map (·.b)).map ay,v,0⟩]⟩⟩)
  (fun i v=>True) 0 0 (bl _) rfl trivial (fun i v h1 _=> ?_) (fun v _=> ?_)
 ·obtain⟨h2,r,s⟩:=rng h1 (by omega)
  have c:(l.take i).length<=1073741823:=by simp;omega
  simp only[h2,r,h1,s,sJ,getD_map,an,ab,dV,fits_int,forall_eq,DV.strip,gZ,RN,J,N,S,U,V,W];refine⟨by simp,c,by simp,c,?_⟩;refine bK 1 2 (v+1) h1 ?_ trivial (by simp) (by simp) rfl rfl;rw[dP h1];simp[ay]
 ·rw[b7]
  simp only[aR,RN,J,N,S,U,V,W];refine LM rfl j rfl ?_;refine LM rfl k rfl ?_;simp only[e,f,RN,J,N,S,U,V,W];refine fG rfl rfl (abB na nb (by omega) (by omega) (by omega)) ?_;have o:(lI (l.map (·.a)) 1).natAbs=na:=by omega
  have q:(lI (l.map (·.b)) 1).natAbs=nb:=by omega
  simp only[kY,o,q,dG,RN,J,N,S,U,V,W]
def acI {a b:Fr}(h1:0<=a.n/\a.n<=216000)(h2:1<=a.d/\a.d<=216000)(c:b.ok=true):(0<=b.n/\b.n<=50000)/\(1<=b.d/\b.d<=50000)/\(0<=a.n*b.d/\a.n*b.d<=10800000000)/\0<=b.n*a.d/\b.n*a.d<=10800000000:=by
 simp only[Fr.ok,inR,Z,decide_eq_true_eq,ge_iff_le]at c;obtain⟨⟨e,f⟩,l,g⟩:=c;have h:=ap h1.2 g (by omega) (by omega);have i:=bO h1.1 (show 0<=b.d by omega);have j:=ap f h2.2 (by omega) (by omega);have k:=bO e (show 0<=a.d by omega);omega
def aax (a b:Fr)(h1:0<=a.n*b.d/\a.n*b.d<=4000000000000000000)(h2:0<=b.n*a.d/\b.n*a.d<=4000000000000000000):Pure C 76 [a.dv,b.dv] (pI (Xi a b)) []:=by
 have c:cw .i64 (a.n*b.d)=a.n*b.d:=aF (by omega);have e:cw .i64 (b.n*a.d)=b.n*a.d:=aF (by omega);have f:cw .i64 (a.n*b.d - b.n*a.d)=a.n*b.d - b.n*a.d:=aF (by omega);refine ah Ap aQ ?_;simp only[Ap,aQ,dG,c,e,f,Xi,RN,J,N,S,U,V,W]
def abX (l:List Pr)(f:Fr)(hl:l.length<=3)(h:∀p∈l,(4<=p.a/\p.a<=60)/\4<=p.b/\p.b<=60)(hf:f.ok=true):Pure C 359 [sF (l.map Pr.dv),f.dv] (.d (lT l f).dv) []:=by
 obtain⟨t1,t2⟩:=QI hl h;obtain⟨q,j,k,m⟩:=acI t1 t2 hf;have e:=ZB l hl h;have c:=aax (kY l) f (by omega) (by omega);have g:cw .i64 (Xi (kY l) f*21600)=Xi (kY l) f*21600:=aF (by simp only[Xi];omega);have n:=ap t2.2 j.2 (by omega) (by omega);have o:=bO (show 0<=(kY l).d by omega) (show 0<=f.d by omega);have i:cw .i64 ((kY l).d*f.d)=(kY l).d*f.d:=aF (by omega);refine ah Az Ll ?_;simp only[dG]at e c⊢;simp only[Az,Ll,RN,J,N,S,U,V,W];refine au e ?_;(try simp only[RN,J,N,S,U,V,W]);refine au c ?_;simp only[g,i,lT,RN,J,N,S,U,V,W]
def abY {f:Fr}(hl:l.length<=3)(h:∀p∈l,(4<=p.a/\p.a<=60)/\4<=p.b/\p.b<=60)(hf:f.ok=true):((lT l f).n.natAbs<=233280000000000)/\1<=(lT l f).d/\(lT l f).d<=10800000000:=by
 obtain⟨t1,t2⟩:=QI hl h;obtain⟨k,c,e,g⟩:=acI t1 t2 hf;have i:=ap t2.2 c.2 (by omega) (by omega);have j:=ap t2.1 c.1 (by omega) (by omega);simp only[lT,Xi];omega
def ajw (l:List Pr)(f:Fr)(turns:Int)(hl:l.length<=1000000):Pure C 337 [sF (l.map Pr.dv),f.dv,dI turns] (.d (.tup [dI (abn l f turns).1,dI (abn l f turns).2])) []:=by
 refine ah IZ QA ?_;have b:=ag8 f;simp only[dG]at b⊢;simp only[IZ,QA,RN,J,N,S,U,V,W]
 repeat' first
  |(refine au (PW l hl) ?_;try simp only[RN,J,N,S,U,V,W])
  |(refine au (b) ?_;try simp only[RN,J,N,S,U,V,W])
  |(refine au (ag9 turns) ?_;try simp only[RN,J,N,S,U,V,W])
  |(refine aH (by rfl) (fun a=> ?_) (fun a=> ?_)<;>simp only[a,RN,J,N,S,U,V,W])
  |(refine aP (by rfl) (fun a=> ?_) (fun a=> ?_)<;>simp only[a,RN,J,N,S,U,V,W])
 any_goals (simp_all[abn];done)
 have h1:pO l=true:=by simp_all
 have h2:f.ok=true:=by simp_all
 have c:inR turns 0 10000=true:=by simp_all
 obtain⟨_,g,h⟩:=zJ h1;obtain⟨m,q⟩:=abY g h h2;have e:=abX l f g h h2;simp only[dG]at e;have o:((lT l f).n*turns).natAbs<=2332800000000000000:=by
  rw[Int.natAbs_mul];have:turns.natAbs<=10000:=by simp only[inR,Z,decide_eq_true_eq]at c;omega
  exact Nat.mul_le_mul m this
 have i:cw .i64 ((lT l f).n*turns)=(lT l f).n*turns:=aF (by omega);have p:=Fq ((lT l f).n*turns) (lT l f).d;have j:cw .i64 (((lT l f).n*turns).tdiv (lT l f).d)=((lT l f).n*turns).tdiv (lT l f).d:=aF (by omega);have k:(lT l f).d≠0:=by omega
 refine au e ?_;simp only[i,j,k,RN,J,N,S,U,V,W];simp only[abn,h1,h2,c,Bool.and_self,if_true,akx]
def Ht (l:List Pr):Fr×Bool×Int:=if pO l then(kY l,(l.length:Int).tmod 2==0,0)else(⟨0,0⟩,false,2)
def afn (l:List Pr)(hl:l.length<=1000000):Pure C 17 [sF (l.map Pr.dv)] (.d (.tup [(Ht l).1.dv, .bool (Ht l).2.1,dI (Ht l).2.2])) []:=by
 refine ah Ei ahA ?_;simp only[Ei,ahA,RN,J,N,S,U,V,W];refine au (PW l hl) ?_;cases h1:pO l
 ·(try simp only[RN,J,N,S,U,V,W])
  simp[Ht,h1,dG]
 ·obtain⟨_,b,c⟩:=zJ h1
  have a:=ZB l b c;simp only[dG]at a;(try simp only[RN,J,N,S,U,V,W]);refine au a ?_;simp only[ab,RN,J,N,S,U,V,W];simp[Ht,h1,dG]
def Gf:aA:=(sw (r0 [ba 1 0 0,mi 2 0] 1 [1] [1]) (sw (sr [lw 3 2 1,oa 4 (.aj 258) 3,oa 5 pN 4] 0 [5] (cd 5 (sr [mi 2 2] 0 [2] .ret) .skip)) (sr [mi 2 0] 0 [2] .ret)))
def IW:aA:=(sw (r0 [ba 1 0 0,mi 2 0,mi 3 0,mi 4 0] 1 [1] [1]) (sw (sr [fa 10 0 1,lo 11 10,oa 12 (.aj 267) 11,oa 13 pN 12,mv 14 13,ow 15 (.fld 1) 1 14 0,lq 16 15 14,oF 17 (.aj 268) [.t 16,kI 0,kI 1000] 14 0,ow 18 pN 17 14 0,pt 19 14 18,mv 20 19,ow 21 (.fld 2) 1 20 0,lq 22 21 20,oF 23 (.aj 268) [.t 22,kI 0,kI 40] 20 0,ow 24 pN 23 20 0,pt 25 20 24,mv 26 25,ow 27 (.fld 3) 1 26 0,lq 28 27 26,oF 29 (.aj 268) [.t 28,kI 0,kI 100] 26 0,ow 30 pN 29 26 0,pt 31 26 30,mv 32 31,ow 33 (.fld 4) 1 32 0,lq 34 33 32,oF 35 (.aj 268) [.t 34,kI 0,kI 100] 32 0,ow 36 pN 35 32 0,pt 37 32 36,mv 38 37,ow 39 (.fld 5) 1 38 0,lq 40 39 38,oF 41 (.aj 268) [.t 40,kI 0,kI 1000000] 38 0,ow 42 pN 41 38 0,pt 43 38 42] 0 [1,43] (cd 43 (sr [mi 2 0,mi 3 0,mi 4 2] 0 [2,3,4] .ret) .skip)) (sr [ag 5 1] 0 [1,5] (sw (sr [fa 44 0 1,lo 45 44,oa 46 .len 45,mi 47 0] 0 [1,5,45,46,47] (.block 0 (.loop (sr [ob 48 pL 47 46] 0 [1,5,45,46,47,48] (sw (cx 48 0) (sw (.block 1 (sr [ix 49 1 45 47,lo 50 49,mv 7 50] 0 [1,5,7,45,46,47] (rg [mv 51 5,mv 52 7,mv 53 7,ob 54 pM 52 53,oa 55 (.dA 1 [z0] [0]) 54,ob 56 (.app 1 false) 51 55,mv 5 56] 0 [1,5,45,46,47]))) (rg [oi 57 pA 47 1,mv 47 57] 0 [1,5,45,46,47]))))))) (sw (r1 [mv 58 5,oa 59 (.iG 270) 58,fu 60 1 1 1,lv 61 60,ob 62 pM 59 61,oi 63 (.aj 269) 62 100,fu 64 2 1 1,lv 65 64,fu 66 3 1 1,lv 67 66,ob 68 pM 65 67,ob 69 pA 63 68,mv 8 69] 0 [1,8] []) (sr [mv 70 8,mv 71 8,fa 72 4 1,lo 73 72,ob 74 pM 71 73,oi 75 (.aj 269) 74 100,ob 76 pA 70 75,mv 9 76] 0 [1,9] (sw (r1 [mv 77 9,mv 78 9,fu 79 5 1 1,lv 80 79,ob 81 pU 78 80,mv 2 77,mv 3 81,mi 4 0] 0 [2,3,4] []) .ret)))))))
def CZ:aA:=(sw (r0 [ba 1 0 0,mf 2 false] 1 [1] [1]) (sw (sr [fa 5 0 1,lo 6 5,oa 7 .len 6,on 8 (.aj 268) [.t 7,kI 1,kI 5],oa 9 pN 8,mv 10 9,ow 11 (.fld 1) 1 10 0,lq 12 11 10,ow 13 .len 12 10 0,oF 14 (.aj 268) [.t 13,kI 1,kI 4] 10 0,ow 15 pN 14 10 0,pt 16 10 15] 0 [1,16] (cd 16 (sr [mf 2 false] 0 [2] .ret) .skip)) (sw (sr [fa 17 0 1,lo 18 17,oa 19 .len 18,mi 20 0] 0 [1,18,19,20] (.block 0 (.loop (sr [ob 21 pL 20 19] 0 [1,18,19,20,21] (sw (cx 21 0) (sw (.block 1 (sw (r0 [mv 22 20,ix 23 3 18 20,lw 24 3 23,al 4 0 [z0,z0,z0],mv 3 22,sk 3 4 24 0] 1 [1,3,4,18,19,20] [4]) (sw (r1 [fu 25 0 4 1,lv 26 25,mv 27 3,on 28 (.aj 268) [.t 26,kI 0,.t 27],oa 29 pN 28,mv 30 29,ow 31 (.fld 1) 4 30 1,ow 32 (.load true 2) 31 30 1,ow 33 (.aj 303) 32 30 0,ow 34 pN 33 30 0,pt 35 30 34,mv 36 35,ow 37 (.fld 0) 1 36 1,ow 38 (.load false 1) 37 36 1,ow 39 .mov 3 36 0,obF 40 (.EC 3 false true false) 38 39 36 1,ow 41 (.fld 0) 4 36 1,ow 42 (.load false 1) 41 36 1,obF 43 (.aj 304) 40 42 36 0,oF 44 (.bin .geq) [.t 43,kI 3] 36 0,pt 45 36 44] 0 [1,18,19,20,45] []) (cd 45 (sr [mf 2 false] 0 [2] .ret) .skip)))) (rg [oi 46 pA 20 1,mv 20 46] 0 [1,18,19,20]))))))) (sr [fa 47 1 1,lo 48 47,oa 49 (.mkF (.func 305) 0) 1,ob 50 (.aj 127) 48 49,oa 51 pN 50,mv 2 51] 0 [2] .ret))))
def Aj:aA:=(sr [mf 2 false] 0 [0] (sr [mv 3 0,oa 4 .len 3,oi 5 (.bin .leq) 4 8,mv 6 5,ov 7 .mov 0 6 0,ot 8 (.aj 127) [.t 7,.c (.func (.func 314) [] [])] 6 0,ov 9 pN 8 6 0,pf 10 6 9,mv 2 10] 0 [2] .ret))
def NU:aA:=(sr [mi 4 0] 0 [0,1] (sr [mv 5 0,mv 6 1,ob 7 pA 5 6,oi 8 pU 7 1,mv 9 1,ob 10 (.bin .quo) 8 9,mv 4 10] 0 [4] .ret))
def KX:aA:=(sr [mi 2 0] 0 [0] (sr [mi 3 0] 0 [0,3] (sw (sr [mv 6 0,oa 7 .len 6,mi 8 0] 0 [3,6,7,8] (.block 0 (.loop (sr [ob 9 pL 8 7] 0 [3,6,7,8,9] (sw (cx 9 0) (sw (.block 1 (sr [ix 10 1 6 8,lo 11 10,mv 5 11] 0 [3,5,6,7,8] (rg [mv 12 3,mv 13 5,ob 14 pA 12 13,mv 3 14] 0 [3,6,7,8]))) (rg [oi 15 pA 8 1,mv 8 15] 0 [3,6,7,8]))))))) (sr [mv 16 3,mv 2 16] 0 [2] .ret))))
def Ee:aA:=(sw (r0 [ba 2 0 0,ba 3 1 1,mk 4 (.c (.slice true [])),mi 5 0] 2 [2,3] [2,3]) (sw (sw (r1 [ou 6 (.load true 2) 2 1,oa 7 (.aj 258) 6,oa 8 pN 7,mv 9 8,ow 10 (.fld 0) 3 9 1,ow 11 (.load false 1) 10 9 1,ow 12 (.fld 0) 2 9 1,ow 13 (.load false 1) 12 9 1,ow 14 .len 13 9 1,oF 15 pU [.t 14,kI 1] 9 0,oF 16 (.aj 268) [.t 11,kI 0,.t 15] 9 0,ow 17 pN 16 9 0,pt 18 9 17,mv 19 18,ow 20 (.fld 1) 3 19 1,ow 21 (.load true 2) 20 19 1,ow 22 (.aj 303) 21 19 0,ow 23 pN 22 19 0,pt 24 19 23,mv 25 24,ow 26 (.fld 1) 3 25 1,ow 27 (.load true 2) 26 25 1,ow 28 (.fld 0) 2 25 1,ow 29 (.load false 1) 28 25 1,ow 30 (.fld 0) 3 25 1,ow 31 (.load false 1) 30 25 1,obF 32 (.bU 3) 29 31 25 1,ow 33 (.fld 1) 32 25 1,ow 34 (.load true 2) 33 25 1,obF 35 (.A8 false [1,1]) 27 34 25 0,pt 36 25 35] 0 [2,3,36] []) (cd 36 (sr [mk 4 (.c (.slice true [])),mi 5 2] 0 [4,5] .ret) .skip)) (sw (r1 [ou 37 (.load true 2) 2 1,oa 38 (.aj 320) 37,ou 39 (.load true 2) 2 1,ou 40 (.load true 3) 3 1,ob 41 (.aj 322) 39 40,oa 42 (.aj 320) 41,ob 43 (.aj 321) 38 42,mv 4 43,mi 5 0] 0 [4,5] []) .ret)))
def Gg:aA:=(sw (r0 [ba 1 0 0,ag 2 2,ag 3 1,mi 4 0] 1 [1] [1]) (sw (sr [lw 11 2 1,oa 12 (.aj 258) 11,oa 13 pN 12] 0 [1,13] (cd 13 (sr [ag 2 2,ag 3 1,mi 4 2] 0 [2,3,4] .ret) .skip)) (sr [on 14 (.build [z0,z0] [(0,1),(1,1)]) [kI 1,kI 1],oa 15 (.lG 2 [.agg [z0,z0]] [0]) 14,on 16 (.lG 1 [.bool false] [0]) [.c (.bool true)],mv 5 15,mv 6 16] 0 [1,5,6] (sw (sr [fa 17 0 1,lo 18 17,oa 19 .len 18,mi 20 0] 0 [1,5,6,19,20] (.block 0 (.loop (sr [ob 21 pL 20 19] 0 [1,5,6,19,20,21] (sw (cx 21 0) (sw (.block 1 (sr [mv 22 20,mv 7 22] 0 [1,5,6,7,19,20] (sw (r0 [lw 24 2 1,mv 25 7,oi 26 pA 25 1,ob 27 (.aj 329) 24 26,oa 28 (.aj 17) 27,mv 23 28,xa 29 0 23,xa 30 1 23,xa 31 2 23,al 8 0 [z0,z0],sk 2 8 29 0,mv 9 30,mv 10 31] 1 [1,5,6,8,9,19,20] [8]) (rg [mv 32 5,lw 33 2 8,oa 34 (.dA 2 [.agg [z0,z0]] [0]) 33,ob 35 (.app 2 false) 32 34,mv 36 6,mv 37 9,oa 38 (.dA 1 [.bool false] [0]) 37,ob 39 (.app 1 false) 36 38,mv 5 35,mv 6 39] 0 [1,5,6,19,20])))) (rg [oi 40 pA 20 1,mv 20 40] 0 [1,5,6,19,20]))))))) (sr [mv 41 5,mv 42 6,mv 2 41,mv 3 42,mi 4 0] 0 [2,3,4] .ret)))))
def CX:aA:=(sw (r0 [ba 5 0 0,ba 6 1 1,ba 7 2 2,ba 8 3 3,ba 9 4 4,mk 10 (.c (.slice true [])),mi 11 0] 5 [5,6,7,8,9] [5,6,7,8,9]) (sw (sr [lw 18 2 5,oa 19 (.aj 258) 18,oa 20 pN 19,mv 21 20,lq 22 6 21,lq 23 7 21,obF 24 (.aj 333) 22 23 21 0,ow 25 pN 24 21 0,pt 26 21 25,mv 27 26,lq 28 7 27,lq 29 6 27,obF 30 pU 28 29 27 0,oF 31 pG [.t 30,kI 10] 27 0,pt 32 27 31,mv 33 32,lq 34 8 33,ow 35 (.fld 1) 5 33 0,lq 36 35 33,ow 37 .len 36 33 0,oF 38 pU [.t 37,kI 1] 33 0,oF 39 (.aj 268) [.t 34,kI 0,.t 38] 33 0,ow 40 pN 39 33 0,pt 41 33 40,mv 42 41,ow 43 (.load true 2) 9 42 0,ow 44 (.aj 334) 43 42 0,ow 45 pN 44 42 0,pt 46 42 45] 0 [5,6,7,8,9,46] (cd 46 (sr [mk 10 (.c (.slice true [])),mi 11 2] 0 [10,11] .ret) .skip)) (sw (r1 [ou 47 (.load true 2) 5 1,oa 48 (.aj 320) 47,fu 49 0 9 1,lv 50 49,fu 51 1 9 1,lv 52 51,ob 53 (.build [z0,z0] [(0,1),(1,1)]) 50 52,al 12 0 [zs,zs,zs],al 13 1 [z0,z0],sk 3 12 48 4,sk 2 13 53 5] 2 [5,6,7,8,12,13] [12,13]) (sr [al 14 0 [.nilFunc]] 1 [5,6,7,8,12,13,14] (sr [on 54 (.mkF (.func 335) 0) [.t 12,.t 8,.t 13,.t 5,.t 6,.t 7,.t 14],sk 1 14 54 0] 0 [5,14] (sw (sr [mi 55 0] 0 [5,14,55] (.block 0 (.loop (sr [oi 56 pL 55 3] 0 [5,14,55,56] (sw (cx 56 0) (sw (.block 1 (sr [mv 57 55,mv 15 57] 0 [5,14,15,55] (sr [lo 59 14,lw 60 2 5,mv 61 15,on 62 .gJ [.t 59,.t 60,kI 0,.t 61],mv 58 62,xa 63 0 58,xa 64 1 58,mv 16 63,mv 17 64] 0 [5,14,16,17,55] (sr [mv 65 17] 0 [5,14,16,55,65] (cd 65 (sr [mv 66 16,mv 10 66,mi 11 0] 0 [10,11] .ret) .skip))))) (rg [oi 67 pA 55 1,mv 55 67] 0 [5,14,55]))))))) (sr [mk 10 (.c (.slice true [])),mi 11 5] 0 [10,11] .ret)))))))
def Gi:aA:=(sw (r0 [ba 4 0 0,ba 6 1 2,mi 8 0,mi 9 0] 2 [1,3,4,6] [4,6]) (sw (sr [lw 10 2 4,oa 11 (.aj 258) 10,oa 12 pN 11,mv 13 12,ow 14 .mov 1 13 0,ow 15 (.fld 1) 4 13 0,lq 16 15 13,ow 17 .len 16 13 0,oF 18 pU [.t 17,kI 1] 13 0,oF 19 (.aj 268) [.t 14,kI 0,.t 18] 13 0,ow 20 pN 19 13 0,pt 21 13 20] 0 [1,3,4,6,21] (cd 21 (sr [mi 8 0,mi 9 2] 0 [8,9] .ret) .skip)) (sw (r1 [ou 22 (.load true 2) 4 1,fu 23 1 4 1,lv 24 23,mv 25 1,ob1 26 (.bU 1) 24 25 1,lv 27 26,ob 28 (.aj 329) 22 27,ou 29 (.load true 2) 6 1,mv 30 3,on 31 (.aj 337) [.t 28,.t 29,.t 30],xa 32 0 31,xa 33 1 31,mv 8 32,mv 9 33] 0 [8,9] []) .ret)))
def Ef:aA:=(sw (r0 [ba 1 0 0,mf 2 false] 1 [1] [1]) (sr [fa 3 0 1,lo 4 3,oa 5 (.aj 315) 4,mv 6 5,ov 7 (.fld 1) 1 6 0,ov 8 (.load false 1) 7 6 0,ov 9 (.aj 315) 8 6 0,pf 10 6 9,mv 2 10] 0 [2] .ret))
def KW:aA:=(sr [mi 4 0] 0 [0,1,4] (sr [al 5 0 [z0],os (.store 1) [.t 5,kI 0] 0] 1 [0,1,4,5] (sw (sr [mv 6 0,mv 7 1,ob 8 (.aj 344) 6 7] 0 [4,5,8] (.block 0 (.rM (.t 8) [9] [5] .skip (.block 1 (rg [lo 10 5,oi 11 pA 10 1,sk 1 5 11 0] 0 []))))) (sr [lo 12 5,mv 4 12] 0 [4] .ret))))
def zk:aA:=(sr [mf 3 false] 0 [0,1] (sr [mv 4 0,fa 5 0 1,lo 6 5,oa 7 .len 6,on 8 (.aj 268) [.t 4,kI 1,.t 7],oa 9 pN 8,mv 3 9] 0 [3] .ret))
def yD:aA:=(sr [mf 2 false] 0 [0] (sr [mv 3 0,oa 4 (.aj 315) 3,oa 5 pN 4,mv 2 5] 0 [2] .ret))
def Dc:aA:=(sr [mf 2 false] 0 [0] (sr [mv 3 0,on 4 (.aj 268) [.t 3,kI 4,kI 60],mv 2 4] 0 [2] .ret))
def IY:aA:=(sw (r0 [ba 1 0 0,al 2 1 [zs,zs,zs]] 2 [1,2] [1]) (sr [lw 6 2 1,on 7 (.build [z0,z0] [(0,1),(1,1)]) [kI 1,kI 1],oa 8 (.lG 2 [.agg [z0,z0]] [0]) 7,ob 9 (.build [zs,zs,zs] [(0,2),(2,1)]) 6 8,al 3 0 [zs,zs,zs],sk 3 3 9 0] 1 [1,2,3] (sw (sr [fa 10 0 1,lo 11 10,oa 12 .len 11,mi 13 0] 0 [1,2,3,12,13] (.block 0 (.loop (sr [ob 14 pL 13 12] 0 [1,2,3,12,13,14] (sw (cx 14 0) (sw (.block 1 (sr [mv 15 13,mv 4 15] 0 [1,2,3,4,12,13] (sw (r1 [fu 16 2 3 2,ou 17 (.load false 1) 16 2,fu 18 0 1 1,lv 19 18,mv 20 4,ob1 21 (.bU 3) 19 20 1,fu 22 0 21 1,lv 23 22,ix 24 2 17 23,ou 25 (.load true 2) 24 3,al 5 0 [z0,z0],sk 2 5 25 4] 1 [1,2,3,4,5,12,13] [5]) (r1 [fu 26 2 3 2,ou 27 (.load false 1) 26 2,fu 28 0 5 1,lv 29 28,fu 30 0 1 1,lv 31 30,mv 32 4,ob1 33 (.bU 3) 31 32 1,fu 34 1 33 1,fu 35 0 34 1,lv 36 35,ob 37 pM 29 36,fu 38 1 5 1,lv 39 38,fu 40 0 1 1,lv 41 40,mv 42 4,ob1 43 (.bU 3) 41 42 1,fu 44 1 43 1,fu 45 1 44 1,lv 46 45,ob 47 pM 39 46,ob 48 (.build [z0,z0] [(0,1),(1,1)]) 37 47,ou 49 (.dA 2 [.agg [z0,z0]] [0]) 48 1,ob 50 (.app 2 false) 27 49,fu 51 2 3 2,sk 1 51 50 0] 0 [1,2,3,12,13] [])))) (rg [oi 52 pA 13 1,mv 13 52] 0 [1,2,3,12,13]))))))) (sr [lw 53 3 3,sk 3 2 53 0] 0 [2] .ret))))
def uY:aA:=(sw (r0 [ba 2 0 0,ba 3 1 1,ag 4 1] 2 [2,3] [2,3]) (sr [ag 5 1] 0 [2,3,5] (sw (sr [fa 8 0 2,fa 9 1 8,lo 10 9,oa 11 .len 10,mi 12 0] 0 [2,3,5,10,11,12] (.block 0 (.loop (sr [ob 13 pL 12 11] 0 [2,3,5,10,11,12,13] (sw (cx 13 0) (sw (.block 1 (sr [mv 14 12,ix 15 1 10 12,lo 16 15,mv 6 14,mv 7 16] 0 [2,3,5,6,7,10,11,12] (sw (r1 [fu 17 2 2 1,lv 18 17,mv 19 7,ob1 20 (.bU 2) 18 19 1,ou 21 (.load true 2) 20 1,fu 22 2 3 1,lv 23 22,mv 24 7,ob1 25 (.bU 2) 23 24 1,ou 26 (.load true 2) 25 1,ob 27 (.aj 351) 21 26,oa 28 pN 27] 0 [2,3,5,6,10,11,12,28] []) (cd 28 (rg [mv 29 5,mv 30 6,oa 31 (.dA 1 [z0] [0]) 30,ob 32 (.app 1 true) 29 31,mv 5 32] 0 [2,3,5,10,11,12]) .skip)))) (rg [oi 33 pA 12 1,mv 12 33] 0 [2,3,5,10,11,12]))))))) (sr [mv 34 5,mv 4 34] 0 [4] .ret))))
def CY:aA:=(sw (r0 [ba 2 0 0,ba 3 1 1,al 4 2 [zs,zs]] 3 [2,3,4] [3]) (sr [fa 5 0 2,lo 6 5,oa 7 (.nZ 214) 6,fa 8 0 2,sk 1 8 7 0] 0 [2,3,4] (sr [fa 9 0 2,lo 10 9,fa 11 0 3,lo 12 11,fa 13 1 3,lw 14 2 13,ix 15 3 10 12,fa 16 1 15,sk 2 16 14 0] 0 [2,4] (sr [lw 17 2 2,sk 2 4 17 0] 0 [4] .ret))))
def Gh:aA:=(sw (r0 [ba 2 0 0,mk 4 (.c (.slice true [])),mi 5 0] 1 [1,2] [2]) (sw (sr [lw 6 2 2,oa 7 (.aj 258) 6,oa 8 pN 7,mv 9 8,ow 10 .mov 1 9 0,ow 11 (.fld 0) 2 9 0,lq 12 11 9,ow 13 .len 12 9 0,oF 14 (.aj 268) [.t 10,kI 1,.t 13] 9 0,ow 15 pN 14 9 0,pt 16 9 15] 0 [1,2,16] (cd 16 (sr [mk 4 (.c (.slice true [])),mi 5 2] 0 [4,5] .ret) .skip)) (sr [lw 17 2 2,mv 18 1,ob 19 (.aj 329) 17 18,mv 4 19,mi 5 0] 0 [4,5] .ret)))
def Df:aA:=(sw (r0 [ba 2 0 0,mk 4 (.c (.slice true []))] 1 [1,2,4] [2]) (sr [al 5 0 [zs]] 1 [1,2,4,5] (sw (sr [fa 7 0 2,lo 8 7,mv 9 1,ob 10 (.aj 344) 8 9] 0 [2,4,5,10] (.block 0 (.rM (.t 10) [11] [2,5] (rg [mv 6 11] 0 [2,5,6]) (.block 1 (r1 [ou 12 (.load false 1) 5 2,fu 13 0 2 1,lv 14 13,mv 15 6,ob1 16 (.bU 3) 14 15 1,fu 17 1 16 1,ou 18 (.load true 2) 17 1,ou 19 (.dA 2 [.agg [z0,z0]] [0]) 18 1,ob 20 (.app 2 true) 12 19,sk 1 5 20 0] 0 [] []))))) (sr [lo 21 5,mv 4 21] 0 [4] .ret))))
def C9:aA:=(sr [mf 4 false] 0 [0,1] (sr [mv 5 0,oa 6 (.aj 315) 5,mv 7 6,ov 8 .mov 1 7 0,ov 9 (.aj 315) 8 7 0,pf 10 7 9,mv 11 10,ov 12 .mov 0 11 0,ov 13 .mov 1 11 0,obT 14 (.bin .leq) 12 13 11 0,pf 15 11 14,mv 4 15] 0 [4] .ret))
def yE:aA:=(sw (r0 [ba 1 0 0,mf 2 false] 1 [1] [1]) (sr [fa 3 0 1,lo 4 3,on 5 (.aj 268) [.t 4,kI 0,kI 50000],mv 6 5,ov 7 (.fld 1) 1 6 0,ov 8 (.load false 1) 7 6 0,ot 9 (.aj 268) [.t 8,kI 1,kI 50000] 6 0,pf 10 6 9,mv 2 10] 0 [2] .ret))
def lX:aA:=(sw (r0 [ba 10 0 0,ag 13 3,mf 14 false] 1 [1,2,3,4,5,6,7,8,9,10] [10]) (sw (sr [mv 21 2,oi 22 pE 21 0] 0 [1,2,3,4,5,6,7,8,9,10,22] (cd 22 (sw (r1 [ou 23 (.load true 3) 3 1,ou 24 (.load true 2) 10 1,oa 25 (.aj 320) 24,lv 26 4,ou 27 (.load true 2) 5 1,on 28 (.aj 336) [.t 23,.t 25,.t 26,.t 27],ag 13 3,mv 14 28] 0 [13,14] [13]) .ret) .skip)) (sw (sr [mv 29 1,mv 15 29] 0 [2,6,7,8,9,10,15] (.block 0 (.loop (sw (sr [mv 30 15,fa 31 0 6,lo 32 31,oa 33 .len 32,ob 34 pL 30 33] 0 [2,6,7,8,9,10,15,34] (cx 34 0)) (sw (.block 1 (sr [lo 37 7,mv 16 37] 0 [2,6,7,8,9,10,15,16] (.block 2 (.loop (sw (sr [mv 38 16,lo 39 8,ob 40 (.bin .leq) 38 39] 0 [2,6,7,8,9,10,15,16,40] (cx 40 2)) (sw (.block 3 (sr [lo 43 7,mv 17 43] 0 [2,6,7,8,9,10,15,16,17] (.block 4 (.loop (sw (sr [mv 44 17,lo 45 8,ob 46 (.bin .leq) 44 45] 0 [2,6,7,8,9,10,15,16,17,46] (cx 46 4)) (sw (.block 5 (sw (r0 [mv 49 15,mv 50 16,mv 51 17,ob 52 (.build [z0,z0] [(0,1),(1,1)]) 50 51,ob 53 (.build [z0,z0,z0] [(0,1),(1,2)]) 49 52,al 18 0 [z0,z0,z0],sk 3 18 53 0] 1 [2,6,7,8,9,10,15,16,17,18] [18]) (sw (sw (r1 [fu 54 1 18 1,ou 55 (.load true 2) 54 1,fu 56 0 6 1,lv 57 56,mv 58 15,ob1 59 (.bU 3) 57 58 1,fu 60 1 59 1,ou 61 (.load true 2) 60 1,ob 62 (.A8 false [1,1]) 55 61] 0 [2,6,7,8,9,10,15,16,17,18,62] []) (cd 62 (.exit 5) .skip)) (sw (r1 [ou 64 (.load false 1) 9 2,ou 65 (.load true 2) 10 1,ou 66 (.load true 3) 18 1,ob 67 (.aj 322) 65 66,mv 68 15,oi 69 pA 68 1,mv 70 2,oi 71 pU 70 1,on 72 .gJ [.t 64,.t 67,.t 69,.t 71],mv 63 72,xa 73 0 63,xa 74 1 63,mv 19 73,mv 20 74] 0 [2,6,7,8,9,10,15,16,17,18,19,20] []) (sr [mv 75 20] 0 [2,6,7,8,9,10,15,16,17,18,19,75] (cd 75 (sw (r0 [lw 76 3 18,oa 77 (.dA 3 [.agg [z0,z0,z0]] [0]) 76,mv 78 19,ob 79 (.app 3 false) 77 78,mv 13 79,mf 14 true] 0 [13,14] [13,13]) .ret) .skip)))))) (rg [mv 47 17,oi 48 pA 47 1,mv 17 48] 0 [2,6,7,8,9,10,15,16,17]))))))) (rg [mv 41 16,oi 42 pA 41 1,mv 16 42] 0 [2,6,7,8,9,10,15,16]))))))) (rg [mv 35 15,oi 36 pA 35 1,mv 15 36] 0 [2,6,7,8,9,10,15])))))) (sw (r0 [ag 13 3,mf 14 false] 0 [13,14] [13]) .ret))))
def wI:aA:=(sw (r0 [ba 4 0 0,ba 5 1 1,ba 7 2 3,mf 8 false] 3 [2,4,5,7] [4,5,7]) (sw (sw (r1 [fu 10 2 5 1,lv 11 10,fu 12 0 4 1,fu 13 1 12 1,lv 14 13,mv 15 2,ob1 16 (.bU 1) 14 15 1,lv 17 16,ob1 18 (.bU 2) 11 17 1,ou 19 (.load true 2) 18 1,ou 20 (.load true 2) 7 1,ob 21 (.aj 351) 19 20,oa 22 pN 21] 0 [2,4,5,22] []) (cd 22 (sr [mf 8 false] 0 [8] .ret) .skip)) (sr [lw 23 3 4,lw 24 3 5,ob 25 (.aj 321) 23 24,mv 9 25] 0 [2,9] (sr [mv 26 9,oa 27 .len 26,oi 28 pE 27 0,mv 29 28,ow 30 .mov 9 29 0,ow 31 .len 30 29 0,oF 32 pE [.t 31,kI 1] 29 0,ow 33 .mov 32 29 0,ov 34 .mov 9 33 0,ot 35 (.bU 1) [.t 34,kI 0] 33 0,ov 36 (.load false 1) 35 33 0,ov 37 .mov 2 33 0,obT 38 pE 36 37 33 0,oF 39 .pick [.t 33,.t 38,.c (.bool false)] 29 0,pt 40 29 39,mv 8 40] 0 [8] .ret))))
def IX:aA:=(sw (r0 [ba 2 0 0,ba 3 1 1,mk 4 (.c (.nilFunc))] 2 [2,3] [2,3]) (sr [ob 5 (.mkF (.func 364) 0) 2 3,mv 4 5] 0 [4] .ret))
def zl:aA:=(sw (r0 [ba 2 0 0,ba 3 1 1,mf 4 false] 2 [2,3] [2,3]) (sr [fa 5 0 2,lo 6 5,fa 7 1 3,lo 8 7,ob 9 pM 6 8,fa 10 0 3,lo 11 10,fa 12 1 2,lo 13 12,ob 14 pM 11 13,ob 15 pE 9 14,mv 4 15] 0 [4] .ret))
def Eh:aA:=(sr [ba 3 0 0] 1 [1,2,3] (sr [al 4 0 [.nilFunc]] 1 [1,2,3,4] (sr [on 5 (.mkF (.func 365) 0) [.t 4,.t 1,.t 3],sk 1 4 5 0] 0 [2,4] (rg [lo 6 4,lo 7 2,ob 8 .gJ 6 7] 0 []))))
def uo:aA:=(sr [mf 5 false] 0 [0,1,2,3] (sw (sr [mv 6 0,oi 7 pE 6 0] 0 [0,1,2,3,7] (cd 7 (sr [mf 5 true] 0 [5] .ret) .skip)) (sw (r1 [ou 8 (.load false 1) 1 2,lv 9 2,mv 10 0,oi 11 pU 10 1,ob1 12 (.bU 3) 9 11 1,fu 13 0 12 1,lv 14 13,ob 15 .gJ 8 14,mv 16 15,ov 17 (.load false 1) 3 16 2,ov 18 .mov 0 16 0,ot 19 pU [.t 18,kI 1] 16 0,obT 20 .gJ 17 19 16 0,pf 21 16 20,mv 5 21] 0 [5] []) .ret)))
end Go.Tel
