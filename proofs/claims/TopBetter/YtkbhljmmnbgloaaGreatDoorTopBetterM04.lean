/-
  Part 4 of a law of desks.
  Conditions: none.
-/
import Derived.Test.YtkbhljmmnbgloaaGreatDoorTopBetterM03
import Derived.ProofKit
import Derived.Deep.Slices
import Derived.IntWalk
import Derived.RecoverIn
import Derived.Shelf.Sort.Plain
import Derived.Lib.LaidTab
import Derived.Lib.ItoaNum
import Derived.Test.YtkbhljmmnbgloaaGreatDoorChecked
set_option linter.all false
set_option maxRecDepth 10000
set_option maxHeartbeats 1000000
open Nat renaming reduceBEq->B,reduceAdd->J,reduceSub->N,reduceEqDiff->S,reduceLT->U,reduceLeDiff->V,le_refl->ai,gcd->av,lt_of_lt_of_le->az,div_le_self->bc,zero_le->bi,le_trans->bo,gcd_pos_of_pos_right->bt,gcd_comm->ck,sub_zero->cm,zero_mul->cn,mul_one->cq
open And renaming intro->W
open Bool renaming and_eq_true->Y,false_and->b6
open List renaming length_map->Z,getElem?_eq_getElem->ab,getD_eq_getElem?_getD->ae,map_cons->an,getElem?_eq_some_iff->ap,map_nil->aq,drop_length->aw,getElem?_take->ax,map_append->aD,mem_append->aE,nil_append->aL,getElem_mem->a7,getElem?_append_left->a8,getElem?_drop->be,length_append->bh,mem_map->bj,append_nil->bk,getElem?_map->br,getElem?_cons_zero->bu,getElem?_eq_none->bz,getElem?_toArray->bA,mem_singleton->bE,ext_getElem?->bO,flatMap_cons->bR,all_eq_true->bS,length_cons->bX,take_length->b4,drop_drop->b8,drop_zero->b9,nodup_nil->cb,all_cons->ce,any_cons->cf,take_add->cg
open Int renaming toNat_natCast->am,mul_le_mul->ao,lt_irrefl->aM,mul_nonneg->bB,le_trans->bL,ofNat_le->bN,ofNat_tdiv->b7,le_refl->cp
open Array renaming getElem?_toList->aR,getElem?_append_left->a6,getD_eq_getD_getElem?->bl,isEmpty_iff->bq,replicate->bv,getElem?_modify->bw
open Option renaming isNone_iff_eq_none->bp,map_some->b5
open Iff renaming rfl->cj
open Go.IntKind renaming wrap->cr
namespace Go.Am
section
variable {C:Ctx}{nb na:Nat}{Q:Ex->St->Prop}{env:List (Nat×PV)}{bs:List (Option (List PV))}{fz:List Nat}{ass:List (Option Arr)}{s:St}
def aiX:pwp C nb na .skip Q s=Q .normal s:=px
def afW {l:Nat}:pwp C nb na (.label l) Q s=Q .normal s:=px
def alQ:pwp C nb na .ret Q s=Q .ret s:=px
def aiW {i:Nat}:pwp C nb na (.exit i) Q s=Q (.exit i) s:=px
def afX {b:aA}:pwp C nb na (.scope b) Q s=pwp C nb na b Q s:=px
def ajw (C:Ctx)(nb na:Nat)(b:aA)(Q:Ex->St->Prop):Ex->St->Prop:=fun e a=>match e with| .normal=>pwp C nb na b Q a|e=>Q e a
def JZ (id:Nat)(Q:Ex->St->Prop):Ex->St->Prop:=fun e b=>match e with| .exit a=>if a=id then Q .normal b else Q (.exit a) b|e=>Q e b
def Pn (nb na:Nat)(I:Nat->St->Prop)(n:Nat)(Q:Ex->St->Prop):Ex->St->Prop:=fun e c=>match e with| .normal=>∃b a,b<n/\Weak nb na c a/\I b a|e=>Q e c
def alR {a b:aA}:pwp C nb na (.seq a b) Q s=pwp C nb na a (ajw C nb na b Q) s:=px
def aaf {b:aA}:ajw C nb na b Q .normal s=pwp C nb na b Q s:=px
def ajx {b:aA}:ajw C nb na b Q .ret s=Q .ret s:=px
def af9 {b:aA}{i:Nat}:ajw C nb na b Q (.exit i) s=Q (.exit i) s:=px
def acI {b:aA}{d:DV}:ajw C nb na b Q (.panic d) s=Q (.panic d) s:=px
def afV {i:Nat}{b:aA}:pwp C nb na (.block i b) Q s=pwp C nb na b (JZ i Q) s:=px
def Ug {i:Nat}:JZ i Q .normal s=Q .normal s:=px
def aaO {i:Nat}:JZ i Q .ret s=Q .ret s:=px
def V5 {i:Nat}{d:DV}:JZ i Q (.panic d) s=Q (.panic d) s:=px
def OO {i j:Nat}:JZ i Q (.exit j) s=if j=i then Q .normal s else Q (.exit j) s:=px
def aaN {i j:Nat}(h:(j==i)=true):JZ i Q (.exit j) s=Q .normal s:=by rw[OO,if_pos (by simpa using h)]
def Yj {i j:Nat}(h:(j==i)=false):JZ i Q (.exit j) s=Q (.exit j) s:=by rw[OO,if_neg (by simpa using h)]
def Xe {I:Nat->St->Prop}{n:Nat}:Pn nb na I n Q .normal s=∃b a,b<n/\Weak nb na s a/\I b a:=px
def afI {I:Nat->St->Prop}{n:Nat}:Pn nb na I n Q .ret s=Q .ret s:=px
def ab8 {I:Nat->St->Prop}{n i:Nat}:Pn nb na I n Q (.exit i) s=Q (.exit i) s:=px
def Zi {I:Nat->St->Prop}{n:Nat}{d:DV}:Pn nb na I n Q (.panic d) s=Q (.panic d) s:=px
variable{b:aA}
def D5 (I:Nat->St->Prop)(n:Nat)(a:I n s)(c:∀n s,I n s->pwp C nb na b (Pn nb na I n Q) s):pwp C nb na (.loop b) Q s:=⟨I,n,a,c⟩
def Na {x:Bool}{c:Opd}{a:aA}(h:s.val c= .d (.bool x)):pwp C nb na (.cond c a b) Q s=((x=true->pwp C nb na a Q s)/\(x=false->pwp C nb na b Q s)):=by
 simp only[pwp,h]
def acy {t:Nat}{a b:aA}{m:Mem}(h:look env t= .d (.bool true)):pwp C nb na (.cond (.t t) a b) Q ⟨env,m⟩=pwp C nb na a Q ⟨env,m⟩:=by
 rw[Na (s:=⟨env,m⟩) (c:= .t t) (x:=true) h];simp
def acw {t:Nat}{a b:aA}{m:Mem}(h:look env t= .d (.bool false)):pwp C nb na (.cond (.t t) a b) Q ⟨env,m⟩=pwp C nb na b Q ⟨env,m⟩:=by
 rw[Na (s:=⟨env,m⟩) (c:= .t t) (x:=false) h];simp
def ZT {a b:aA}:pwp C nb na (.cond (.c (.bool true)) a b) Q s=pwp C nb na a Q s:=by
 rw[Na (x:=true) rfl];simp
def ZR {a b:aA}:pwp C nb na (.cond (.c (.bool false)) a b) Q s=pwp C nb na b Q s:=by
 rw[Na (x:=false) rfl];simp
def Tc {d:Bool}{ops:List PO}{acj:Nat}{keep a:List Nat}{m:Mem}:pwp C nb na (.region d ops acj keep a) Q ⟨env,m⟩=
  wK C m.boxes.length ops (fun b=>sQ a (Q .normal) ⟨iq b.env keep,b.mem⟩) (fun d M=>Q (.panic d) ⟨[],M⟩) ⟨env,⟨m.boxes++List.replicate acj none,m.fz,m.aC⟩⟩:=px
def ZU {d:Bool}{ops:List PO}{keep:List Nat}{m:Mem}:pwp C nb na (.region d ops 0 keep []) Q ⟨env,m⟩=
  wK C m.boxes.length ops (fun a=>Q .normal ⟨iq a.env keep,a.mem⟩) (fun d M=>Q (.panic d) ⟨[],M⟩) ⟨env,m⟩:=by
 rw[Tc];simp only[List.replicate_zero,bk,sQ]
def afh {K:St->Prop}:sQ [] K s=K s:=px
def Zc:iq env []=[]:=rfl
def WU {k:Nat}{ks:List Nat}:iq env (k::ks)=(k,look env k)::iq env ks:=by simp only[iq,an]
end
section
variable {C:Ctx}{base:Nat}{K:St->Prop}{KP:DV->Mem->Prop}{s:St}{env:List (Nat×PV)}{m:Mem}
def acG:wK C base [] K KP s=K s:=px
def Z8 {o:PO}{os:List PO}:wK C base (o::os) K KP s=eH C base o (fun a=>wK C base os K KP a) KP s:=px
def al7 {dst:Option Nat}{op:POp}{args:List Opd}:eH C base ⟨dst,op,args,none,0⟩ K KP ⟨env,m⟩=au C base op (args.map (St.val ⟨env,m⟩)) m (fun v M=>K ⟨put env dst v,M⟩) KP:=propext ⟨fun h=>h.2,fun h=>⟨trivial,h⟩⟩
def ajq {dst:Option Nat}{op:POp}{args:List Opd}{fl:Nat}:eH C base ⟨dst,op,args,none,fl⟩ K KP ⟨env,m⟩=(yu base fl (args.map (St.val ⟨env,m⟩))/\au C base op (args.map (St.val ⟨env,m⟩)) m (fun v M=>K ⟨put env dst v,M⟩) KP):=px
def ajt {dst:Option Nat}{op:POp}{args:List Opd}{fl t:Nat}(h:look env t= .d (.bool true)):eH C base ⟨dst,op,args,some (t,true),fl⟩ K KP ⟨env,m⟩=
  (yu base fl (args.map (St.val ⟨env,m⟩))/\au C base op (args.map (St.val ⟨env,m⟩)) m (fun v M=>K ⟨put env dst v,M⟩) KP):=by
 simp only[eH,h];simp
def ajp {dst:Option Nat}{op:POp}{args:List Opd}{fl t:Nat}(h:look env t= .d (.bool false)):eH C base ⟨dst,op,args,some (t,false),fl⟩ K KP ⟨env,m⟩=
  (yu base fl (args.map (St.val ⟨env,m⟩))/\au C base op (args.map (St.val ⟨env,m⟩)) m (fun v M=>K ⟨put env dst v,M⟩) KP):=by
 simp only[eH,h];simp
def ajs {dst:Option Nat}{op:POp}{args:List Opd}{fl t:Nat}(h:look env t= .d (.bool false)):eH C base ⟨dst,op,args,some (t,true),fl⟩ K KP ⟨env,m⟩=K ⟨put env dst (.d (.tup [])),m⟩:=by
 simp only[eH,h];simp
def ajr {dst:Option Nat}{op:POp}{args:List Opd}{fl t:Nat}(h:look env t= .d (.bool true)):eH C base ⟨dst,op,args,some (t,false),fl⟩ K KP ⟨env,m⟩=K ⟨put env dst (.d (.tup [])),m⟩:=by
 simp only[eH,h];simp
def al8 {dst:Option Nat}{op:POp}{args:List Opd}{fl t:Nat}{w:Bool}(h:look env t= .d (.tup [])):eH C base ⟨dst,op,args,some (t,w),fl⟩ K KP ⟨env,m⟩=K ⟨put env dst (.d (.tup [])),m⟩:=by
 simp only[eH,h]
def anz {args:List PV}:yu base 0 args=True:=rfl
def anA {args:List PV}:yu base 1 args=(args.all PV.isD=true):=px
def akT {b o:Nat}{l:List PV}:yu base 2 (.ptr b o::l)=(b<base):=px
def akS {x:DV}{l:List PV}:yu base 2 (.d x::l)=True:=px
def anB {k v i o:Nat}{l:List PV}:yu base 3 (.jX k v i o::l)=True:=px
def anC {i b o:Nat}{l:List PV}:yu base (i+4) (.ptr b o::l)=(b=base+i):=px
def akU {f b o:Nat}{l:List PV}(h:4<=f):yu base f (.ptr b o::l)=(b=base+(f - 4)):=by
 obtain⟨i,rfl⟩:∃i,f=i+4:=⟨f - 4,by omega⟩
 rw[anC];simp
def apE {x:DV}:PV.isD (.d x)=true:=rfl
def aiV {d:Nat}{v:PV}:put env (some d) v=(d,v)::env:=by simp only[put]
def aiU {v:PV}:put env none v=env:=by simp only[put]
def ait {d:Nat}{v:PV}:look ((d,v)::env) d=v:=by simp[look]
def afH {d t:Nat}{v:PV}(h:(d==t)=false):look ((d,v)::env) t=look env t:=by simp[look,h]
def ap1 {n:Nat}:St.val ⟨env,m⟩ (.t n)=look env n:=by simp only[St.val]
def ap0 {x:DV}:St.val ⟨env,m⟩ (.c x)= .d x:=by simp only[St.val]
end
section
variable {C:Ctx}{base:Nat}{M:Mem}{K:PV->Mem->Prop}{KP:DV->Mem->Prop}
def anu {x:PV}:au C base .mov [x] M K KP=K x M:=px
variable{sz:Nat}
def ae4 {xs:List DV}:au C base (.VY sz) [.d (.slice true xs)] M K KP=(0<sz/\(∀e∈xs,e.fits sz=true)/\K (.tsl M.aC.length 0 0) {M with aC:=M.aC++ [some ⟨sz,xs,0,0⟩]}):=propext ⟨fun h=>h.2,fun h=>⟨rfl,h⟩⟩
def YH {sz:Nat}:au C base (.VY sz) [.d (.slice true [])] M K KP=(0<sz/\K (.tsl M.aC.length 0 0) {M with aC:=M.aC++ [some ⟨sz,[],0,0⟩]}):=by
 rw[ae4];simp
def ae5 {sz k ver skip:Nat}:au C base (.VY sz) [.tsl k ver skip] M K KP=K (.tsl k ver skip) M:=px
def akK {t:Bool}{x y:PV}:au C base .pick [.d (.bool t),x,y] M K KP=K (bif t then x else y) M:=px
def ahs {i:Nat}{zs:List DV}:au C base (.alloc i zs) [] M K KP=(M.boxes[base+i]?=some none/\K (.ptr (base+i) 0) {M with boxes:=M.boxes.set (base+i) (some (zs.map .d))}):=px
def anq {i:Nat}{x:PV}:au C base (.box i) [x] M K KP=(x.oh=false/\M.boxes[base+i]?=some none/\K (.ptr (base+i) 0) {M with boxes:=M.boxes.set (base+i) (some x.cells)}):=px
variable{args:List PV}
def ahu {zs:List DV}{ps:List (Nat×Nat)}:au C base (.build zs ps) args M K KP=(match jY (zs.map .d) ps args with|some cs=>K (zX cs) M|none=>False):=px
def akI {zs xs ds:List DV}{a:List Nat}(h1:bV M args=some ds)(h2:qJ sz zs a (ds.map DV.strip)=some xs):au C base (.dU sz zs a) args M K KP=K (.d (.slice true xs)) (M.frz args):=by
 simp only[au,h1,h2]
def akH {agg:Bool}{n:Nat}{x:PV}:au C base (.load agg n) [x] M K KP=bY agg n x M fun v=>K v M:=px
def ahy {agg:Bool}{n:Nat}{x:PV}:au C base (.Jr agg n) [x] M K KP=oJ agg n x M fun v=>K v M:=px
def ahB {n:Nat}{x v:PV}:au C base (.store n) [x,v] M K KP=jM n x v M fun M'=>K .dead M':=px
def abo {b o:Nat}:au C base .bg [.ptr b o] M K KP=K (.ptr b o) M:=px
def abn {cs:List DV}:au C base .bg [.d (.aP cs)] M K KP=K (.d (.aP cs)) M:=px
def anp {op:BinOp}{x y:PV}:au C base (.bin op) [x,y] M K KP=OM op x y fun v=>K (.d v) M:=px
def WA {neq t:Bool}{ks:List Nat}{a b:List DV}(h:bW ks a b=some t):au C base (.CZ neq ks) [.d (.agg a), .d (.agg b)] M K KP=K (.d (.bool (t !=neq))) M:=by simp only[au,h]
def akx {neq a b:Bool}:au C base (.Yg neq) [.d (.bool a), .d (.bool b)] M K KP=K (.d (.bool ((a==b) !=neq))) M:=px
def ahx {neq ex:Bool}{xs:List DV}:au C base (.isNil neq) [.d (.slice ex xs), .d (.slice true [])] M K KP=((xs≠[]->K (.d (.bool neq)) M)/\(xs=[]->∀b,K (.d (.bool b)) M)):=px
def aoZ {op:UnOp}{x:PV}:au C base (.un op) [x] M K KP=aat op x fun v=>K (.d v) M:=px
def akz {k k':IntKind}{n:Int}:au C base (.conv k) [.d (.int k' n)] M K KP=K (.d (.int k (k.wrap n))) M:=px
def ahz {fn:Fn}{nf:Nat}{args:List PV}:au C base (.mkF fn nf) args M K KP=(match gV args with|some ds=>K (.d (.func fn (ds.take nf) (ds.drop nf))) M|none=>K (.func fn (args.take nf) (args.drop nf)) M):=px
def anr {off:Nat}{x:PV}:au C base (.fld off) [x] M K KP=mM off x M fun v=>K v M:=px
def akB {agg:Bool}{off n:Nat}{x:PV}:au C base (.Qh agg off n) [x] M K KP=(x.isAgg=true/\off+n<=x.cells.length/\K (ld agg n off x.cells) M):=px
def akC {sz:Nat}{x i:PV}:au C base (.bH sz) [x,i] M K KP=uT sz x i M fun v=>K v M:=px
def akD {s:ByteArray}{k:IntKind}{n:Int}:au C base .WQ [.d (.str s), .d (.int k n)] M K KP=(0<=n/\n.toNat<s.size/\K (.d (.int .u8 (s.data.getD n.toNat 0).toNat)) M):=px
def akE {agg:Bool}{sz len:Nat}{x:PV}{k:IntKind}{n:Int}:au C base (.Qj agg sz len) [x, .d (.int k n)] M K KP=(x.isAgg=true/\0<=n/\n<len/\n.toNat*sz+sz<=x.cells.length/\K (ld agg sz (n.toNat*sz) x.cells) M):=px
def aky {f:FuncId}{args:List PV}:au C base (.call f) args M K KP=SC C f args M K KP:=px
def ae7 {f:FuncId}:au C base (.gG f) args M K KP=Nj C f args M K:=px
def ano {sz:Nat}{st1:Bool}{s x:PV}:au C base (.app sz st1) [s,x] M K KP=kL sz st1 s x M K:=px
def ant {x:PV}:au C base .len [x] M K KP=qx x M fun n=>K (.d (.int .i64 n)) M:=px
def akG {s:ByteArray}:au C base .Gi [.d (.str s)] M K KP=K (.d (.int .i64 s.size)) M:=px
def akF {n:Nat}{args:List PV}:au C base (.Zg n) args M K KP=K (.d (.int .i64 n)) M:=px
def wu {mx:Bool}{k k':IntKind}{a b:Int}:au C base (.qo mx) [.d (.int k a), .d (.int k' b)] M K KP=K (.d (.int k (bif mx then(if b>a then b else a)else(if b<a then b else a)))) M:=px
def YK {neq:Bool}{b o:Nat}:au C base (.yx neq) [.ptr b o, .d .nilPtr] M K KP=K (.d (.bool neq)) M:=px
def YI {neq:Bool}{cs:List DV}:au C base (.yx neq) [.d (.aP cs), .d .nilPtr] M K KP=K (.d (.bool neq)) M:=px
def YJ {neq:Bool}:au C base (.yx neq) [.d .nilPtr, .d .nilPtr] M K KP=K (.d (.bool !neq)) M:=px
def abj {sz len b o:Nat}{k:IntKind}{n:Int}:au C base (.GL sz len) [.ptr b o, .d (.int k n)] M K KP=(0<=n/\n<len/\K (.ptr b (o+n.toNat*sz)) M):=px
def abh {sz len:Nat}{cs:List DV}{k:IntKind}{n:Int}:au C base (.GL sz len) [.d (.aP cs), .d (.int k n)] M K KP=(0<=n/\n<len/\n.toNat*sz<=cs.length/\K (.d (.aP (cs.drop (n.toNat*sz)))) M):=px
def WB {agg:Bool}{sz len:Nat}{cs:List DV}:au C base (.UA agg sz len) [.d (.aP cs)] M K KP=(cs.length=len*sz/\(agg=false->sz=1/\∀c∈cs,c.one=true)/\K (.d (.slice true (vY agg sz len cs))) M):=px
def akk {op:BinOp}{k:IntKind}{a b:Int}{K:DV->Prop}:OM op (.d (.int k a)) (.d (.int k b)) K=mD op k a b K:=propext ⟨fun h=>h.2,fun h=>⟨rfl,h⟩⟩
def alb {k:IntKind}{a b:Int}{K:DV->Prop}:mD .add k a b K=K (.int k (k.wrap (a+b))):=px
def aln {k:IntKind}{a b:Int}{K:DV->Prop}:mD .sub k a b K=K (.int k (k.wrap (a - b))):=px
def ali {k:IntKind}{a b:Int}{K:DV->Prop}:mD .mul k a b K=K (.int k (k.wrap (a*b))):=px
def alk {k:IntKind}{a b:Int}{K:DV->Prop}:mD .quo k a b K=(b≠0/\K (.int k (k.wrap (a.tdiv b)))):=px
def alm {k:IntKind}{a b:Int}{K:DV->Prop}:mD .rem k a b K=(b≠0/\K (.int k (a.tmod b))):=px
def ald {k:IntKind}{a b:Int}{K:DV->Prop}:mD .eql k a b K=K (.bool (a==b)):=px
def alj {k:IntKind}{a b:Int}{K:DV->Prop}:mD .neq k a b K=K (.bool (a !=b)):=px
def alh {k:IntKind}{a b:Int}{K:DV->Prop}:mD .lss k a b K=K (.bool (decide (a<b))):=px
def alg {k:IntKind}{a b:Int}{K:DV->Prop}:mD .leq k a b K=K (.bool (decide (a<=b))):=px
def alf {k:IntKind}{a b:Int}{K:DV->Prop}:mD .gtr k a b K=K (.bool (decide (a>b))):=px
def ale {k:IntKind}{a b:Int}{K:DV->Prop}:mD .geq k a b K=K (.bool (decide (a>=b))):=px
def aoH {k:IntKind}{a:Int}{K:DV->Prop}:aat .neg (.d (.int k a)) K=K (.int k (k.wrap (0 - a))):=px
def aoI {a:Bool}{K:DV->Prop}:aat .not (.d (.bool a)) K=K (.bool !a):=px
def aok {agg:Bool}{n:Nat}{cs:List DV}{K:PV->Prop}:bY agg n (.d (.aP cs)) M K=(n<=cs.length/\K (ldD agg n 0 cs)):=px
def ao2 {off:Nat}{cs:List DV}{K:PV->Prop}:mM off (.d (.aP cs)) M K=(off<=cs.length/\K (.d (.aP (cs.drop off)))):=px
def ao3 {off b o:Nat}{K:PV->Prop}:mM off (.ptr b o) M K=K (.ptr b (o+off)):=px
def aof {sz:Nat}{ex:Bool}{xs:List DV}{k:IntKind}{n:Int}{K:PV->Prop}:uT sz (.d (.slice ex xs)) (.d (.int k n)) M K=(0<=n/\n.toNat<xs.length/\(xs.getD n.toNat default).cells.length=sz/\K (.d (.aP (xs.getD n.toNat default).cells))):=px
def apJ {ex:Bool}{xs:List DV}{K:Int->Prop}:qx (.d (.slice ex xs)) M K=K xs.length:=px
def aio {n off:Nat}{cs:List PV}:ld false n off cs=cs.getD off .dead:=rfl
def als {n off:Nat}{cs:List PV}:ld true n off cs=zX ((cs.drop off).take n):=rfl
def afB {n off:Nat}{cs:List DV}:ldD false n off cs= .d (cs.getD off default):=rfl
def ain {n off:Nat}{cs:List DV}:ldD true n off cs= .d (.agg ((cs.drop off).take n)):=rfl
def aa3 {cs:List DV}:PV.cells (.d (.agg cs))=cs.map .d:=rfl
def aa4 {k:IntKind}{n:Int}:PV.cells (.d (.int k n))=[.d (.int k n)]:=rfl
def Yq {b:Bool}:PV.cells (.d (.bool b))=[.d (.bool b)]:=rfl
def Wn {ex:Bool}{xs:List DV}:PV.cells (.d (.slice ex xs))=[.d (.slice ex xs)]:=rfl
def aa5 {s:ByteArray}:PV.cells (.d (.str s))=[.d (.str s)]:=rfl
def rU {cs:List DV}:DV.cells (.agg cs)=cs:=rfl
def fU {k:IntKind}{n:Int}:DV.cells (.int k n)=[.int k n]:=rfl
def ah9 {x:DV}:PV.oh (.d x)=false:=rfl
def lX:bG=⟨[],[],[]⟩:=rfl
def Xc (c:Option (Option (List PV)))(agg:Bool)(n off:Nat)(K:PV->Prop):Prop:=match c with|some (some cs)=>off+n<=cs.length/\K (ld agg n off cs)| _=>False
def oM (c:Option (Option (List PV)))(b n off:Nat)(v:PV)(M:Mem)(K:Mem->Prop):Prop:=match c with
 |some (some cs)=>b∉M.fz/\v.cells.length=n/\v.cells.all PV.one=true/\off+n<=cs.length/\K ⟨M.boxes.set b (some (splice cs off v.cells)),M.fz,M.aC⟩
 | _=>False
def lenRow (c:Option (Option Arr))(ver skip:Nat)(K:Int->Prop):Prop:=match c with|some (some A)=>A.ver=ver/\K ((A.elems.length - skip:Nat):Int)| _=>False
def abN (c:Option (Option Arr))(sz k ver skip:Nat)(n:Int)(K:PV->Prop):Prop:=match c with|some (some A)=>A.ver=ver/\A.sz=sz/\0<=n/\skip+n.toNat<A.elems.length/\K (.jX k ver (skip+n.toNat) 0)| _=>False
def loadRow (c:Option (Option Arr))(agg:Bool)(n ver i off:Nat)(K:PV->Prop):Prop:=match c with
 |some (some A)=>A.ver=ver/\off+n<=(A.elems.getD i default).cells.length/\K (ldD agg n off (A.elems.getD i default).cells)| _=>False
def aby (c:Option (Option Arr))(k ver i o:Nat)(K:PV->Prop):Prop:=match c with|some (some A)=>A.ver=ver/\K (.jX k ver i o)| _=>False
def appRow (c:Option (Option Arr))(sz:Nat)(st1:Bool)(k ver skip:Nat)(ys:List DV)(M:Mem)(K:PV->Mem->Prop):Prop:=match c with
 |some (some A)=>A.ver=ver/\A.sz=sz/\A.st≠2/\A.elems.length+ys.length<=1073741824/\K (.tsl k (ver+1) 0) ⟨M.boxes,M.fz,M.aC.set k (some ⟨sz,A.elems.drop skip++ys,ver+1,bif st1 then 1 else A.st⟩)⟩
 | _=>False
variable {bs:List (Option (List PV))}{fz:List Nat}{ass:List (Option Arr)}
def aly {agg:Bool}{n b off:Nat}{K:PV->Prop}:bY agg n (.ptr b off) ⟨bs,fz,ass⟩ K=Xc bs[b]? agg n off K:=by
 simp only[bY,Xc,Mem.box]
 rcases bs[b]? with _| _|cs<;>simp
def afC {agg:Bool}{n off:Nat}{cs:List PV}{K:PV->Prop}:Xc (some (some cs)) agg n off K=(off+n<=cs.length/\K (ld agg n off cs)):=px
def ajI {n b off:Nat}{v:PV}{K:Mem->Prop}:jM n (.ptr b off) v ⟨bs,fz,ass⟩ K=oM bs[b]? b n off v ⟨bs,fz,ass⟩ K:=by
 simp only[jM,oM,Mem.box]
 rcases bs[b]? with _| _|cs<;>simp
def acO {b n off:Nat}{v:PV}{cs:List PV}{K:Mem->Prop}:oM (some (some cs)) b n off v ⟨bs,fz,ass⟩ K=
  (b∉fz/\v.cells.length=n/\v.cells.all PV.one=true/\off+n<=cs.length/\K ⟨bs.set b (some (splice cs off v.cells)),fz,ass⟩):=px
def F9 {k ver:Nat}:(⟨bs,fz,ass⟩:Mem).row k ver=match ass[k]? with|some (some A)=>if A.ver=ver then some A else none| _=>none:=rfl
def aoi {k ver skip:Nat}{K:Int->Prop}:qx (.tsl k ver skip) ⟨bs,fz,ass⟩ K=lenRow ass[k]? ver skip K:=by
 simp only[qx,lenRow,F9]
 rcases ass[k]? with _| _|A
 ·simp
 ·simp
 ·by_cases h:A.ver=ver<;>simp[h]
def aip {ver skip:Nat}{sz v st:Nat}{xs:List DV}{K:Int->Prop}:lenRow (some (some ⟨sz,xs,v,st⟩)) ver skip K=(v=ver/\K ((xs.length - skip:Nat):Int)):=px
def ala {sz k ver skip:Nat}{a:IntKind}{n:Int}{K:PV->Prop}:uT sz (.tsl k ver skip) (.d (.int a n)) ⟨bs,fz,ass⟩ K=abN ass[k]? sz k ver skip n K:=by
 simp only[uT,abN,F9]
 rcases ass[k]? with _| _|A
 ·simp
 ·simp
 ·by_cases h:A.ver=ver<;>simp[h]
def ah8 {sz k ver skip:Nat}{n:Int}{a v st:Nat}{xs:List DV}{K:PV->Prop}:abN (some (some ⟨a,xs,v,st⟩)) sz k ver skip n K=(v=ver/\a=sz/\0<=n/\skip+n.toNat<xs.length/\K (.jX k ver (skip+n.toNat) 0)):=px
def alv {agg:Bool}{n k ver i off:Nat}{K:PV->Prop}:bY agg n (.jX k ver i off) ⟨bs,fz,ass⟩ K=loadRow ass[k]? agg n ver i off K:=by
 simp only[bY,loadRow,F9]
 rcases ass[k]? with _| _|A
 ·simp
 ·simp
 ·by_cases h:A.ver=ver<;>simp[h]
def afE {agg:Bool}{n ver i off sz v st:Nat}{xs:List DV}{K:PV->Prop}:loadRow (some (some ⟨sz,xs,v,st⟩)) agg n ver i off K=(v=ver/\off+n<=(xs.getD i default).cells.length/\K (ldD agg n off (xs.getD i default).cells)):=px
def anD {off k ver i o:Nat}{K:PV->Prop}:mM off (.jX k ver i o) ⟨bs,fz,ass⟩ K=aby ass[k]? k ver i (o+off) K:=by
 simp only[mM,aby,F9]
 rcases ass[k]? with _| _|A
 ·simp
 ·simp
 ·by_cases h:A.ver=ver<;>simp[h]
def ahH {k ver i o sz v st:Nat}{xs:List DV}{K:PV->Prop}:aby (some (some ⟨sz,xs,v,st⟩)) k ver i o K=(v=ver/\K (.jX k ver i o)):=px
def am2 {sz:Nat}{st1 ex:Bool}{xs ys:List DV}{K:PV->Mem->Prop}:kL sz st1 (.d (.slice true xs)) (.d (.slice ex ys)) ⟨bs,fz,ass⟩ K=
  (0<sz/\(∀y∈ys,y.fits sz=true)/\(st1=true->ys≠[])/\(∀y∈xs,y.fits sz=true)/\xs.length+ys.length<=1073741824/\K (.tsl ass.length 0 0) ⟨bs,fz,ass++ [some ⟨sz,xs++ys,0,bif st1 then 1 else 0⟩]⟩):=by
 simp only[kL,yg,true_and]
def agT {sz k ver skip:Nat}{st1 ex:Bool}{ys:List DV}{K:PV->Mem->Prop}:kL sz st1 (.tsl k ver skip) (.d (.slice ex ys)) ⟨bs,fz,ass⟩ K=
  (0<sz/\(∀y∈ys,y.fits sz=true)/\(st1=true->ys≠[])/\appRow ass[k]? sz st1 k ver skip ys ⟨bs,fz,ass⟩ K):=by
 simp only[kL,yg,appRow,F9]
 rcases ass[k]? with _| _|A
 ·simp
 ·simp
 ·by_cases h:A.ver=ver<;>simp[h]
def X9 {sz k ver skip:Nat}{st1:Bool}{ys:List DV}{a v st:Nat}{xs:List DV}{K:PV->Mem->Prop}:appRow (some (some ⟨a,xs,v,st⟩)) sz st1 k ver skip ys ⟨bs,fz,ass⟩ K=
  (v=ver/\a=sz/\st≠2/\xs.length+ys.length<=1073741824/\K (.tsl k (ver+1) 0) ⟨bs,fz,ass.set k (some ⟨sz,xs.drop skip++ys,ver+1,bif st1 then 1 else st⟩)⟩):=px
def Ko (v:PV)(t:Nat)(ts:List Nat)(K:St->Prop)(env:List (Nat×PV))(M:Mem):Prop:=match datum M v with|some d=>sQ ts K ⟨(t, .d d)::env,M.frz [v]⟩|none=>False
def anI (v:PV)(t:Nat)(ts:List Nat)(K:St->Prop)(env:List (Nat×PV))(M:Mem):Prop:=Ko v t ts K env M
def ahK (c:Option (Option (List PV)))(b off t:Nat)(ts:List Nat)(K:St->Prop)(env:List (Nat×PV))(M:Mem):Prop:=match c with
 |some (some cs)=>match gV cs with|some ds=>sQ ts K ⟨(t, .d (.aP (ds.drop off)))::env,⟨M.boxes,b::M.fz,M.aC⟩⟩|none=>anI (.ptr b off) t ts K env M
 | _=>False
def akX {K:St->Prop}{t:Nat}{ts:List Nat}{env:List (Nat×PV)}{m:Mem}:sQ (t::ts) K ⟨env,m⟩=Ko (look env t) t ts K env m:=rfl
def UU {M:Mem}:∀{ds:List DV},bT M (ds.map .d)=some ds
 | []=>rfl
 |d::ds=>by simp only[an,bT,dR,UU]
def anG {K:St->Prop}{b off t:Nat}{ts:List Nat}{env:List (Nat×PV)}:Ko (.ptr b off) t ts K env ⟨bs,fz,ass⟩=ahK bs[b]? b off t ts K env ⟨bs,fz,ass⟩:=by
 unfold ahK;cases a:bs[b]? with
 |none=>simp[Ko,datum,Mem.box,a]
 |some o=>
  cases o with
  |none=>simp[Ko,datum,Mem.box,a]
  |some cs=>
   simp only;cases hd:gV cs with
   |none=>rfl
   |some ds=>
    have:=IB hd;subst this;have h2:(ds.map PV.d).flatMap rY=[]:=by
     clear a hd;induction ds with
     |nil=>rfl
     |cons d ds e=>simp[rY]
    have c:(ds.map PV.d).flatMap rZ=[]:=by
     clear a hd h2;induction ds with
     |nil=>rfl
     |cons d ds e=>simp[rZ]
    simp only[c,Ko,datum,Mem.box,a,UU,b5,Mem.frz,bR,List.flatMap_nil,kK,lg,h2,bk,List.cons_append,aL,Gh,List.foldl_nil]
def anF {K:St->Prop}{b off t:Nat}{ts:List Nat}{env:List (Nat×PV)}{cs:List PV}:ahK (some (some cs)) b off t ts K env ⟨bs,fz,ass⟩=(match gV cs with|some ds=>sQ ts K ⟨(t, .d (.aP (ds.drop off)))::env,⟨bs,b::fz,ass⟩⟩|none=>anI (.ptr b off) t ts K env ⟨bs,fz,ass⟩):=rfl
def agO:gV []=some []:=rfl
def aec {x:DV}{l:List PV}:gV (.d x::l)=(gV l).map (x::·):=rfl
def cO {base:Nat}{KP:DV->Mem->Prop}{f:FuncId}{args:List PV}{ds ds':List DV}{x:DV}(h1:gV args=some ds)(h2:ds.map DV.strip=ds')(b:Pure C f ds' (.d x) [])(a:K (.d x) M):au C base (.aj f) args M K KP:=⟨ds,h1,x,h2▸b,a⟩
def apR {x:DV}:PV.one (.d x)=x.one:=rfl
def alI {k:IntKind}{n:Int}:DV.one (.int k n)=true:=rfl
def aiI {b:Bool}:DV.one (.bool b)=true:=rfl
def alK {s:ByteArray}:DV.one (.str s)=true:=rfl
def afO {ex:Bool}{xs:List DV}:DV.one (.slice ex xs)=true:=rfl
def alJ {r:Option (List (DV×DV))}:DV.one (.map r)=true:=rfl
end
def ak {C:Ctx}{M:Mem}{K:PV->Mem->Prop}{base:Nat}{KP:DV->Mem->Prop}{f:FuncId}{args:List PV}{ds ds':List DV}{x:DV}(b:Pure C f ds' (.d x) [])(a:K (.d x) M)(h1:gV args=some ds:=by rfl)(h2:ds.map DV.strip=ds':=by rfl):au C base (.aj f) args M K KP:=cO h1 h2 b a
inductive Ty where
 |int (k:IntKind)
 |bool
 |str
 |slice (e:Ty)
 |struct (fs:List Ty)
mutual
def Ty.size:Ty->Nat
 | .struct fs=>Gf fs
 | _=>1
def Gf:List Ty->Nat
 | []=>0
 |t::a=>t.size+Gf a
end
def Ty.mY:Ty->Bool
 | .int .i64=>true
 | .struct (.int .i64::_)=>true
 | .struct (.bool:: .int .i64::_)=>true
 | _=>false
def Ty.isStruct:Ty->Bool
 | .struct _=>true
 | _=>false
def Shp (e:Ty)(x:DV):Prop:=(e.isStruct=true->∃cs,x= .agg cs)/\(e.isStruct=false->x.cells=[x])
inductive Has:Ty->List DV->Prop
 |int {k:IntKind} {n:Int} (h:(Lit.int k n).wf=true):Has (.int k) [.int k n]
 |bool {b:Bool}:Has .bool [.bool b]
 |str {s:ByteArray} (h:s.size<=maxLen):Has .str [.str s]
 |slice {e:Ty} {xs:List DV} (h:∀x∈xs,Has e x.cells) (h':∀x∈xs,Shp e x):Has (.slice e) [.slice false xs]
 |nil:Has (.struct []) []
 |cons {t:Ty} {ts:List Ty} {ds es:List DV} (h:Has t ds) (h':Has (.struct ts) es):Has (.struct (t::ts)) (ds++es)
mutual
def CX (P:Program):Ty->TypeId->Bool
 | .int k,t=>(match P.underlying t with|some (.int b)=>decide (b=k)| _=>false)&&P.cellsOf t==1
 | .bool,t=>(match P.underlying t with|some .bool=>true| _=>false)&&P.cellsOf t==1
 | .str,t=>(match P.underlying t with|some .string=>true| _=>false)&&P.cellsOf t==1
 | .slice e,t=>(match P.underlying t with|some (.slice u)=>CX P e u&&e.mY| _=>false)&&P.cellsOf t==1
 | .struct fs,t=>(match P.underlying t with|some (.struct a)=>Vp P fs a.toList 0| _=>false)&&P.cellsOf t==Gf fs
def Vp (P:Program):List Ty->List Field->Nat->Bool
 | [],[],_=>true
 |t::b,g::a,off=>CX P t g.type&&decide (g.offset=off)&&Vp P b a (off+t.size)
 | _,_,_=>false
end
def Vo {P:Program}:∀{T:Ty} {t:TypeId},CX P T t=true->P.cellsOf t=T.size
 | .int k,t,h=>by simp[CX]at h;simp[Ty.size,h.2]
 | .bool,t,h=>by simp[CX]at h;simp[Ty.size,h.2]
 | .str,t,h=>by simp[CX]at h;simp[Ty.size,h.2]
 | .slice e,t,h=>by simp[CX]at h;simp[Ty.size,h.2]
 | .struct fs,t,h=>by simp[CX]at h;simp[Ty.size,h.2]
def WR:∀{e:Ty},e.mY=true->0<e.size
 | .int k,_=>by simp[Ty.size]
 | .struct (t::a),h=>by
  cases t with
  |int k=>simp only[Ty.size,Gf];omega
  |bool=>simp only[Ty.size,Gf];omega
  | _=>simp[Ty.mY]at h
 | .bool,_=>by simp[Ty.size]
 | .str,_=>by simp[Ty.size]
 | .slice _,_=>by simp[Ty.size]
 | .struct [],h=>by simp[Ty.mY]at h
def YW:∀{T:Ty} {ds:List DV},Has T ds->ds.length=T.size:=by
 intro T ds h
 induction h with
 |cons h b c a=>simp only[bh,Ty.size,Gf]at*;omega
 | _=>simp[Ty.size,Gf]
def LM {e:Ty}{ds:List DV}(a:e.mY=true)(h:Has e ds):∃k n,k<e.size/\ds[k]?=some (.int .i64 n)/\(e.isStruct=false->k=0):=by
 cases h with
 |int h=>rename_i k n;cases k<;>simp[Ty.mY]at a;exact⟨0,n,by simp[Ty.size],rfl,fun _=>rfl⟩
 |cons h b=>
  rename_i t c ds es
  cases h with
  |int h=>rename_i k n;cases k<;>simp[Ty.mY]at a;exact⟨0,n,by simp[Ty.size,Gf];omega,rfl,fun _=>rfl⟩
  |bool=>
   cases b with
   |nil=>simp[Ty.mY]at a
   |cons h b=>
    cases h with
    | @int k n h=>cases k<;>simp[Ty.mY]at a;exact⟨1,n,by simp[Ty.size,Gf];omega,rfl,fun h=>by simp[Ty.isStruct]at h⟩
    | _=>simp[Ty.mY]at a
  | _=>simp[Ty.mY]at a
 | _=>simp[Ty.mY]at a
section
variable {H:Type}{enc:TypeId×Value->H}{P:Program}{w:World}{base:Nat}{spare:Nat->Bool}{held:Bool}{O:Nat->Prop}
def cells_at {a:Addr}{n:Nat}{cs:List Value}(h:w.cells? base a n=some cs)(m:0<n):∃c T fz,a.spot=none/\w.heap[a.block]?=some (.cells c T fz)/\(c.toList.drop a.off).take n=cs:=by
 obtain⟨_,p,j⟩:=World.cells?_some h;have d:=j 0 m;have g:cs[0]?=some cs[0]:=ab (by omega);rw[g]at d;obtain⟨e,off,b⟩:=a;have l:b=none:=by
  cases b with
  |none=>rfl
  |some q=>simp only[World.cell?,Addr.add]at d;split at d<;>simp at d
 subst l;simp only[Addr.add_lit]at j d;cases f:w.heap[e]? with
 |none=>simp[World.cell?,f]at d
 |some o=>
  cases o with
  |cells c T fz=>
   refine⟨c,T,fz,rfl,rfl,?_⟩;have k:∀i,i<n->c[off+i]?=cs[i]?:=fun i hi=>by
    have:=j i hi
    rwa [cell_of_row w e (off+i) c T fz f]at this
   apply bO;intro i
   by_cases hi:i<n
   ·rw[ax,if_pos hi,be,aR]
    exact k i hi
   ·rw[ax,if_neg hi,bz (by omega)]
  | _=>simp[World.cell?,f]at d
def pieces {c:Array Value}{off sz:Nat}{e:Ty}(a:e.size=sz):∀(k:Nat),(∀i,i<k->∃x:DV,Has e x.cells/\Shp e x/\aV w O ((c.toList.drop (off+i*sz)).take sz) x.cells)->
  ∃xs:List DV,xs.length=k/\(∀x∈xs,Has e x.cells)/\(∀x∈xs,Shp e x)/\aV w O ((c.toList.drop off).take (k*sz)) (flat xs)
 |0,_=>⟨[],rfl,fun x b=>by simp at b,fun x b=>by simp at b,by simpa[flat]using .nil⟩
 |k+1,h=>by
  obtain⟨xs,h1,h2,l,m⟩:=pieces a k fun i hi=>h i (by omega)
  obtain⟨x,f,g,j⟩:=h k (by omega);refine⟨xs++ [x],by simp[h1],?_,?_,?_⟩
  ·intro y hy
   rcases aE.1 hy with hy|hy
   ·exact h2 y hy
   ·simp at hy;subst hy;exact f
  ·intro y hy
   rcases aE.1 hy with hy|hy
   ·exact l y hy
   ·simp at hy;subst hy;exact g
  ·have d:(c.toList.drop off).take ((k+1)*sz)=(c.toList.drop off).take (k*sz)++(c.toList.drop (off+k*sz)).take sz:=by
    rw[Nat.add_mul,Nat.one_mul,cg,b8]
   rw[d,xg];refine m.append ?_
   simpa[flat]using j
mutual
def Xp (Q:∀b,O b->∀c T fz,w.heap[b]?=some (.cells c T fz)->∀(i:Nat) (n:Int),c[i]?≠some (.int .i64 n)):∀(T:Ty) (g:Nat) (t:TypeId) (cs:List Value) (x:DataW H×List MemPlace),CX P T t=true->
  DataW.trod enc P w base spare held g t cs=some x->∃ds,Has T ds/\aV w O cs ds
 | .int k,g,t,cs,x,f,h=>by
  simp only[CX,Y]at f;obtain⟨f,_⟩:=f
  split at f
  ·rename_i k' l
   simp only[decide_eq_true_eq]at f;subst f;cases g with
   |zero=>simp[DataW.trod]at h
   |succ g=>
    unfold DataW.trod at h;rw[l]at h
    split at h<;>simp_all
    obtain⟨⟨rfl,hw⟩,_⟩:=h;exact⟨_, .int hw, .cons (.int _ _) .nil⟩
  ·cases f
 | .bool,g,t,cs,x,f,h=>by
  simp only[CX,Y]at f;obtain⟨f,_⟩:=f
  split at f
  ·rename_i l
   cases g with
   |zero=>simp[DataW.trod]at h
   |succ g=>
    unfold DataW.trod at h;rw[l]at h
    split at h<;>simp_all
    exact⟨_, .bool, .cons (.bool _) .nil⟩
  ·cases f
 | .str,g,t,cs,x,f,h=>by
  simp only[CX,Y]at f;obtain⟨f,_⟩:=f
  split at f
  ·rename_i l
   cases g with
   |zero=>simp[DataW.trod]at h
   |succ g=>
    unfold DataW.trod at h;rw[l]at h
    split at h<;>simp_all
    exact⟨_, .str h.1, .cons (.str _) .nil⟩
  ·cases f
 | .slice e,g,t,cs,x,f,h=>by
  simp only[CX,Y]at f;obtain⟨f,_⟩:=f
  split at f
  ·rename_i u l
   simp only[Y]at f;obtain⟨hu,hint⟩:=f;have X:=Vo hu;have p:=WR hint
   rcases Go.Deep.open_slice l h with⟨rfl,_⟩|⟨a,len,cap,m,n,D,Pl,rfl,_,B,_,hm,_,C⟩
   ·exact⟨_, .slice (xs:=[]) (fun x o=>by simp at o) (fun x o=>by simp at o), .cons (.empty (fun hh=>by cases hh)) .nil⟩
   ·have aq:len<=m:=by rw[hm];split<;>omega
    rw[X]at C;have I:∀i,i<len->∃j,w.cells? base (a.add (i*e.size)) e.size=some j/\∃ds,Has e ds/\aV w O j ds:=by
     intro i hi;obtain⟨j,S,U⟩:=C i (by omega);exact⟨j,S,Xp Q e n _ j _ hu U⟩
    by_cases h0:len=0
    ·subst h0
     exact⟨_, .slice (xs:=[]) (fun x o=>by simp at o) (fun x o=>by simp at o), .cons (.empty (fun hh=>by cases hh)) .nil⟩
    ·obtain⟨an,A,ao,V,W⟩:=I 0 (by omega)
     rw[cn]at A;obtain⟨c,T,fz,J,M,K⟩:=cells_at A p;obtain⟨N,off,am⟩:=a;simp only[Addr.add,if_true]at J M K;subst J;have ac:=pieces (w:=w) (O:=O) (c:=c) (off:=off) (sz:=e.size) (e:=e) rfl len (fun i hi=>by
      obtain⟨j,g1,ds,L,g3⟩:=I i hi;obtain⟨c',T',ap,_,q,aoc⟩:=cells_at g1 p;simp only[Addr.add_lit]at q aoc;rw[M]at q;cases q;cases z:e.isStruct with
      |true=>
       refine⟨.agg ds,L,⟨fun _=>⟨ds,rfl⟩,fun hh=>by rw[z]at hh;cases hh⟩,?_⟩;rw[aoc];exact g3
      |false=>
       have G:e.size=1:=by cases e<;>simp_all[Ty.size,Ty.isStruct]
       have hl:=YW L;rw[G]at hl;obtain⟨d,rfl⟩:=List.length_eq_one_iff.1 hl;have s:d.cells=[d]:=by
        obtain⟨k,n,_,F,l⟩:=LM hint L;rw[l z]at F;simp at F;subst F;rfl
       refine⟨d,(by rw[s];exact L),⟨fun hh=>(by rw[z]at hh;cases hh),fun _=>s⟩,?_⟩;rw[aoc,s];exact g3)
     obtain⟨xs,x1,x2,x3,x4⟩:=ac;refine⟨_, .slice x2 x3, .cons (.slice (sz:=e.size) M ?_ x1 (fun x o=>YW (x2 x o)) B (fun hh=>by cases hh) x4) .nil⟩;intro R;obtain⟨k,n,l,F,_⟩:=LM hint V;obtain⟨v,hv,ab⟩:=W.get' k _ F;have Z:=ab.fO;subst Z;have r:c[off+k]?=some (.int .i64 n):=by
      have h5:((c.toList.drop off).take e.size)[k]?=some (.int .i64 n):=by rw[K];exact hv
      rw[ax,if_pos l,be,aR]at h5;exact h5
     exact Q N R c T fz M (off+k) n r
  ·cases f
 | .struct fs,g,t,cs,x,f,h=>by
  simp only[CX,Y,beq_iff_eq]at f;obtain⟨f,y⟩:=f
  split at f
  ·rename_i gs l
   cases g with
   |zero=>simp[DataW.trod]at h
   |succ g=>
    unfold DataW.trod at h;rw[l]at h;simp only at h
    split at h
    ·rename_i E
     rw[Option.map_eq_some_iff]at h;obtain⟨ys,ae,_⟩:=h;obtain⟨ds,h1,h2⟩:=ZW Q fs g gs.toList 0 cs ys f ae;refine⟨ds,h1,?_⟩;rw[b9,List.take_of_length_le (by rw[E,y];exact ai _)]at h2;exact h2
    ·cases h
  ·cases f
def ZW (k:∀b,O b->∀c T fz,w.heap[b]?=some (.cells c T fz)->∀(i:Nat) (n:Int),c[i]?≠some (.int .i64 n)):∀(fs:List Ty) (a:Nat) (e:List Field) (off:Nat) (cs:List Value) (ys:List (DataW H×List MemPlace)),Vp P fs e off=true->
  (e.mapM fun f=>DataW.trod enc P w base spare held a f.type ((cs.drop f.offset).take (P.cellsOf f.type)))=some ys->∃ds,Has (.struct fs) ds/\aV w O ((cs.drop off).take (Gf fs)) ds
 | [],a,[],off,cs,ys,_,_=>⟨[], .nil,by simpa[Gf]using .nil⟩
 |T::fs,a,g::e,off,cs,ys,d,h=>by
  simp only[Vp,Y,decide_eq_true_eq]at d;obtain⟨⟨h1,h2⟩,m⟩:=d;simp only[List.mapM_cons,Option.bind_eq_bind,Option.bind_eq_some_iff,Option.pure_def,Option.some.injEq]at h;obtain⟨y,j,zs,l,_⟩:=h;rw[h2,Vo h1]at j;obtain⟨ds,o,p⟩:=Xp k T a g.type _ y h1 j;obtain⟨es,r1,r2⟩:=ZW k fs a e (off+T.size) cs zs m l;refine⟨ds++es, .cons o r1,?_⟩;simp only[Gf];rw[cg,b8];exact p.append r2
 | [],a,_::_,_,_,_,d,_=>by simp[Vp]at d
 | _::_,a,[],_,_,_,d,_=>by simp[Vp]at d
end
end
open Go.ChangeShapes Go.WideShapes Go.RowKit
def ad7 (T:Ty)(d:DV):Prop:=Has T d.cells/\Shp T d
def Ed:List Ty->List DV->Prop
 | [],[]=>True
 |T::a,d::ds=>ad7 T d/\Ed a ds
 | _,_=>False
def EL (P:Program):List Ty->List TypeId->Bool
 | [],[]=>true
 |T::a,t::b=>CX P T t&&EL P a b
 | _,_=>false
def ak5 {T:Ty}{ds:List DV}(h:Has T ds)(hs:T.isStruct=false):∃x,ds=[x]/\x.cells=[x]:=by
 cases h with
 |nil=>cases hs
 |cons=>cases hs
 | _=>exact⟨_,rfl,rfl⟩
section
variable {H:Type}{enc:TypeId×Value->H}{P:Program}{w:World}{base:Nat}{spare:Nat->Bool}{held:Bool}{O:Nat->Prop}
def ai1 (s:∀b,O b->∀c T fz,w.heap[b]?=some (.cells c T fz)->∀(i:Nat) (n:Int),c[i]?≠some (.int .i64 n)){T:Ty}{t:TypeId}{v:Value}{d:DataW H}{ps:List MemPlace}{r:Reach}{p:Nat}
  (f:CX P T t=true)(g:Value.okWide P w r p t v)(h:DataW.Trod enc P w base spare held t v d ps):∃x,ad7 T x/\bK w O v x:=by
 obtain⟨l,z⟩:=h;obtain⟨ds,h1,h2⟩:=Xp s T l t _ _ f z;have one:T.isStruct=false->(∀cs,v≠ .agg cs)->∃x,ad7 T x/\bK w O v x:=by
  intro m A;obtain⟨x,rfl,o⟩:=ak5 h1 m;have y:v.cells= #[v]:=by cases v<;>first|rfl|(exact absurd rfl (A _))
  rw[y]at h2;cases h2 with
  |cons q _=>
   exact⟨x,⟨by rw[o];exact h1,⟨fun hh=>(by rw[m]at hh;cases hh),fun _=>o⟩⟩,q⟩
 cases T with
 |int k=>
  simp only[CX,Y]at f
  split at f
  ·rename_i C j
   obtain⟨n,rfl⟩:=okWide_int j g;exact one rfl fun cs hh=>by cases hh
  ·cases f.1
 |bool=>
  simp only[CX,Y]at f
  split at f
  ·rename_i j
   obtain⟨n,rfl⟩:=okWide_bool j g;exact one rfl fun cs hh=>by cases hh
  ·cases f.1
 |str=>
  simp only[CX,Y]at f
  split at f
  ·rename_i j
   obtain⟨n,rfl⟩:=okWide_string j g;exact one rfl fun cs hh=>by cases hh
  ·cases f.1
 |slice e=>
  simp only[CX,Y]at f
  split at f
  ·rename_i u j
   obtain⟨a,len,cap,rfl⟩:=okWide_slice j g;exact one rfl fun cs hh=>by cases hh
  ·cases f.1
 |struct fs=>
  simp only[CX,Y]at f
  split at f
  ·rename_i B j
   obtain⟨cs,rfl,_⟩:=okWide_struct j g;exact⟨.agg ds,⟨h1,⟨fun _=>⟨ds,rfl⟩,fun hh=>(by cases hh)⟩⟩, .agg h2⟩
  ·cases f.1
def ZV (f:∀b,O b->∀c T fz,w.heap[b]?=some (.cells c T fz)->∀(i:Nat) (n:Int),c[i]?≠some (.int .i64 n)){r:Reach}{k:Nat}:∀{Ts:List Ty} {ts:List TypeId} {vs:List Value} {ds:List (DataW H)} {ps:List MemPlace},
  EL P Ts ts=true->(∀(j:Nat) t v,ts[j]?=some t->vs[j]?=some v->Value.okWide P w r k t v)->DataW.TrodAll enc P w base spare held ts vs ds ps->∃xs,Ed Ts xs/\aV w O vs xs
 | [],[],[],[],_,_,_,_=>⟨[],trivial, .nil⟩
 |T::Ts,t::ts,v::vs,d::ds,ps,a,g,h=>by
  simp only[EL,Y]at a;obtain⟨p,q,h1,h2,_⟩:=h;obtain⟨x,l,m⟩:=ai1 f a.1 (g 0 t v rfl rfl) h1;obtain⟨xs,o,s⟩:=ZV f a.2 (fun j y z u e=>g (j+1) y z (by simpa using u) (by simpa using e)) h2;exact⟨x::xs,⟨l,o⟩, .cons m s⟩
 | [],_::_,_,_,_,a,_,_=>by simp[EL]at a
 | _::_,[],_,_,_,a,_,_=>by simp[EL]at a
 | [],[],_::_,_,_,_,_,h=>by cases h
 | [],[],[],_::_,_,_,_,h=>by cases h
 | _::_,_::_,[],_,_,_,_,h=>by cases h
 | _::_,_::_,_::_,[],_,_,_,h=>by cases h
variable{w':World}
def Zf (h:Later w w'):Below w.heap.size w w':=⟨h.os,h.tape,h.output,h.size,h.keep⟩
variable{args:Array Value}
def afA {C:Ctx}{f:FuncId}{Ts:List Ty}{ts:List TypeId}{ds:List (DataW H)}{ps:List MemPlace}{r:Reach}{m:Nat}
  (q:C.P=P)(p:C.G w)(a:∀b,C.low b->b<w.heap.size/\∀c T fz,w.heap[b]?=some (.cells c T fz)->∀(i:Nat) (n:Int),c[i]?≠some (.int .i64 n))
  (k:EL P Ts ts=true)(hv:∀(j:Nat) t v,ts[j]?=some t->args.toList[j]?=some v->Value.okWide P w r m t v)(h:DataW.TrodAll enc P w base spare held ts args.toList ds ps)
  (abK:∀xs,Ed Ts xs->Pure C f xs (.d (.bool true)) []):Calls P f args w fun e w'=>e= .returned (.bool true)/\Below w.heap.size w w':=by
 obtain⟨xs,h1,h2⟩:=ZV (O:=C.low) (fun b g=>(a b g).2) k hv h;have:=abK xs h1 C.low w args.toList p (fun b g=>g) (fun b g=>(a b g).1) h2;rw[q,Array.toArray_toList]at this;refine Calls.mono this fun e w' s=> ?_
 obtain⟨v,x,rfl,y,o,u⟩:=s;have l:=u.toD.nT;subst l;exact⟨rfl,Zf o.BJ⟩
def JU {w':World}(hl:laidOutB P=true)(hb:Below w.heap.size w w'):∀{ts:List TypeId} {vs:List Value} {ds:List (DataW H)} {ps:List MemPlace},(∀t∈ts,P.readableRec t=true/\t<P.types.size)->
  DataW.TrodAll enc P w 0 (fun _=>true) true ts vs ds ps->(∀x∈ps,x.block<w.heap.size)->DataW.TrodAll enc P w' 0 (fun b=>decide (b<w.heap.size)) true ts vs ds ps
 | [],[],[],_,_,h,_=>h
 |t::ts,v::vs,d::ds,ps,g,h,c=>by
  obtain⟨p,q,h1,h2,rfl⟩:=h;obtain⟨a,b⟩:=g t (by simp);exact⟨p,q,Below.trod hl a b h1 hb (fun x f=>c x (by simp[f])),JU hl hb (fun i e=>g i (by simp[e])) h2 (fun x f=>c x (by simp[f])),rfl⟩
 | [],_::_,_,_,_,h,_=>by cases h
 | [],[],_::_,_,_,h,_=>by cases h
 | _::_,[],_,_,_,h,_=>by cases h
 | _::_,_::_,[],_,_,h,_=>by cases h
def aik {f:Func}{s:ChangeSpec}{apart fresh a:Bool}{ds:List (DataW H)}{before:List MemPlace}{tb:TypeId}(hl:laidOutB P=true)(b:s.vars=[])
  (k:DataW.Whole enc P f.params.toList s.vars apart w args.toList ds [] before)(e:f.resultTypes= #[tb])(g:P.underlying tb=some .bool)(i:∀t∈f.params.toList,P.readableRec t=true/\t<P.types.size)
  (c:s.fn H (ds++ [])={results:=[.lit (.bool true)],args:=ds})(hb:Below w.heap.size w w'):s.post enc P f apart fresh a false w args (.bool true) w':=by
 have d:=k;obtain⟨p,q,l,j,rfl,_,_⟩:=k;have m:q=[]:=by rw[b]at j;exact j
 subst m;refine⟨ds,[],p++ [],[],p,[],d,?_,?_,?_,hb.frame _,fun h=>by cases h⟩
 ·rw[c,e]
  exact trodAll_mk1 (shut_bool g true)
 ·rw[c]
  exact JU hl hb i l fun x n=>d.lt x (by simp[n])
 ·rw[c,b];rfl
end
def Sz {n m:Nat}:∀{env:List (Nat×PV)},(env.all fun p=>p.2.upto n m)=true->∀t,(look env t).upto n m=true
 | [],_,t=>by simp[look,PV.upto]
 |(k,v)::l,h,t=>by
  simp only[ce,Y]at h;simp only[look];cases a:(k==t)with
  |true=>simpa using h.1
  |false=>simpa using Sz h.2 t
def Weak.take {nb na n m:Nat}{env:List (Nat×PV)}{bs:List (Option (List PV))}{fz:List Nat}{ass:List (Option Arr)}(h1:nb<=n)(h2:na<=m)(e:(env.all fun p=>p.2.upto n m)=true)
  (d:((bs.take n).all fun c=>(c.getD []).all fun p=>p.upto n m)=true):Weak nb na ⟨env,⟨bs,fz,ass⟩⟩ ⟨env,⟨bs.take n,fz.filter (fun b=>decide (b<n)),ass.take m⟩⟩:=by
 refine .inr (.inl ⟨n,m,h1,h2,rfl,fun t=> .inr ⟨rfl,Sz e t⟩,fun cs a c f=> ?_⟩);simp only[bS]at d;exact d cs a c f
def Weak.same {nb na:Nat}{env:List (Nat×PV)}{bs:List (Option (List PV))}{fz:List Nat}{ass:List (Option Arr)}(h1:nb<=bs.length)(h2:na<=ass.length)(a:(env.all fun p=>p.2.upto bs.length ass.length)=true)
  (d:(bs.all fun c=>(c.getD []).all fun p=>p.upto bs.length ass.length)=true):Weak nb na ⟨env,⟨bs,fz,ass⟩⟩ ⟨env,⟨bs,fz.filter (fun b=>decide (b<bs.length)),ass⟩⟩:=by
 have:=Weak.take (fz:=fz) (ass:=ass) h1 h2 a (by rw[b4];exact d)
 simpa using this
section
variable {C:Ctx}{base:Nat}{M:Mem}{K:PV->Mem->Prop}{KP:DV->Mem->Prop}
def ahA {sz:Nat}:au C base (.dU sz [] []) [] M K KP=K (.d (.slice true [])) M:=by
 have:=BG (M:=M) (ds:=[]);simp only[aq]at this;simp only[au,bV,aq,qJ,this]
def gB {sz:Nat}{z x:DV}:au C base (.dU sz [z] [0]) [.d x] M K KP=(x.strip.cells.length=sz/\K (.d (.slice true [x.strip])) M):=by
 have:=BG (M:=M) (ds:=[x]);simp only[an,aq]at this;simp only[au,bV,datum,an,aq,qJ,this,List.length_singleton,Nat.zero_lt_one,and_true]
 by_cases h:x.strip.cells.length=sz
 ·simp[h]
 ·simp[h]
variable{bs:List (Option (List PV))}{fz:List Nat}{ass:List (Option Arr)}{k s:Nat}{A:Arr}
def alA (h:ass[k]?=some (some A)):mkRow ⟨bs,fz,ass⟩ (k,s)=⟨A.sz,A.elems.drop s,0,A.st⟩:=by simp only[mkRow,h]
def gJ {ver:Nat}(h:ass[k]?=some (some A))(hv:A.ver=ver)(hs:s<=A.elems.length){A':Arr}(b:A'=⟨A.sz,A.elems.drop s,0,A.st⟩):
  ∃L,xA ⟨bs,fz,ass⟩ L/\ren ⟨bs,fz,ass⟩ L (.tsl k ver s)= .tsl 0 0 0/\L.map (mkRow ⟨bs,fz,ass⟩)=[A']:=by
 refine⟨[(k,s)],⟨fun q a=> ?_,by simp⟩,?_,?_⟩
 ·simp only[bE]at a
  subst a;simp only[BK,h]
  simpa using hs
 ·simp[ren,Ti,Nb,Mem.row,h,hv]
 ·simp only[an,aq,alA h,b]
end
end Go.Am
namespace Go.Tel
open Go.Am
def aF {n:Int}(h: -9223372036854775808<=n/\n<=9223372036854775807):IntKind.i64.wrap n=n:=Go.IntWalk.i64_in _ (by omega)
structure Pt where
 x:Int
 y:Int
 deriving DecidableEq,Inhabited
structure Wh where
 lN:Int
 uY:Int
 layer:Int
 aU:Int
 deriving DecidableEq,Inhabited
structure Ms where
 a:Int
 b:Int
 deriving DecidableEq,Inhabited
structure Tn where
 num:Int
 den:Int
 deriving DecidableEq,Inhabited
structure Piece where
 w:Int
 h:Int
 pl:Int
 ga:Int
 po:Int
 cs:List Pt
 ws:List Wh
 ms:List Ms
 deriving DecidableEq,Inhabited
def ay (n:Int):DV:= .int .i64 n
def Pt.dv (p:Pt):DV:= .agg [.int .i64 p.x, .int .i64 p.y]
def Wh.dv (p:Wh):DV:= .agg [.int .i64 p.lN, .int .i64 p.uY, .int .i64 p.layer, .int .i64 p.aU]
def Ms.dv (p:Ms):DV:= .agg [.int .i64 p.a, .int .i64 p.b]
def Tn.dv (p:Tn):DV:= .agg [.int .i64 p.num, .int .i64 p.den]
def Piece.dv (p:Piece):DV:= .agg [.int .i64 p.w, .int .i64 p.h, .int .i64 p.pl, .int .i64 p.ga, .int .i64 p.po, .slice false (p.cs.map Pt.dv), .slice false (p.ws.map Wh.dv), .slice false (p.ms.map Ms.dv)]
def aW {n:Int}:ay n= .int .i64 n:=by rw[ay]
def BA {p:Pt}:p.dv= .agg [.int .i64 p.x, .int .i64 p.y]:=by rw[Pt.dv]
def pq {p:Wh}:p.dv= .agg [.int .i64 p.lN, .int .i64 p.uY, .int .i64 p.layer, .int .i64 p.aU]:=by rw[Wh.dv]
def Lr {p:Ms}:p.dv= .agg [.int .i64 p.a, .int .i64 p.b]:=by rw[Ms.dv]
def ug {p:Piece}:p.dv= .agg [.int .i64 p.w, .int .i64 p.h, .int .i64 p.pl, .int .i64 p.ga, .int .i64 p.po, .slice false (p.cs.map Pt.dv), .slice false (p.ws.map Wh.dv), .slice false (p.ms.map Ms.dv)]:=by rw[Piece.dv]
structure Laid where
 p:Piece
 mm:List Ms
 gone:List Int
 deriving Inhabited
def Laid.dv (l:Laid):DV:=
 .agg [.int .i64 l.p.w, .int .i64 l.p.h, .int .i64 l.p.pl, .int .i64 l.p.ga, .int .i64 l.p.po, .slice false (l.p.cs.map Pt.dv), .slice false (l.p.ws.map Wh.dv), .slice false (l.p.ms.map Ms.dv),
  .map (some (l.mm.map fun m=>(m.dv, .bool true))), .slice false (l.gone.map ay)]
def kS {l:Laid}:l.dv= .agg [.int .i64 l.p.w, .int .i64 l.p.h, .int .i64 l.p.pl, .int .i64 l.p.ga, .int .i64 l.p.po, .slice false (l.p.cs.map Pt.dv), .slice false (l.p.ws.map Wh.dv), .slice false (l.p.ms.map Ms.dv),
  .map (some (l.mm.map fun m=>(m.dv, .bool true))), .slice false (l.gone.map ay)]:=by rw[Laid.dv]
variable{i:Nat}
def getD_map {α:Type}[Inhabited α]{f:α->DV}{l:List α}(h:i<l.length):(l.map f).getD i default=f (l.getD i default):=by
 rw[ae,ae,br,ab h];rfl
def drop_cons {α:Type}[Inhabited α]{l:List α}(h:i<l.length):l.drop i=l.getD i default::l.drop (i+1):=by
 rw[List.drop_eq_getElem_cons h];simp[List.getD,h]
def inR (n l h:Int):Bool:=decide (n>=l)&&decide (n<=h)
def PW (w h:Int):List Pt->List Pt->Bool
 | _,[]=>true
 |a,c::cs=>inR c.x 0 w&&inR c.y 0 h&& !a.contains c&&PW w h (a++ [c]) cs
def Vg (n:Int):List Ms->List Ms->Bool
 | _,[]=>true
 |c,m::ms=>inR m.a 0 (n - 1)&&inR m.b 0 (n - 1)&& !decide (m.a>=m.b)&& !c.contains m&&Vg n (c++ [m]) ms
def acU (n:Int)(w:Wh):Bool:=inR w.lN 0 (n - 1)&&inR w.uY 0 2&&inR w.layer 0 5&&inR w.aU 4 50
def Piece.WH (p:Piece):Bool:=inR p.w 1 120&&inR p.h 1 120&&inR p.pl 0 4&&inR p.ga 0 4&&inR p.po 0 3
def Piece.Xa (p:Piece):Bool:=inR p.cs.length 1 6&& !decide ((p.ws.length:Int)>8)&& !decide ((p.ms.length:Int)>10)
def Piece.ok (p:Piece):Bool:=p.WH&&p.Xa&&PW p.w p.h [] p.cs&&Vg p.ws.length [] p.ms&&p.ws.all (acU p.cs.length)
def Piece.wh (p:Piece)(a:Int):Wh:=p.ws.getD a.toNat default
def Piece.pt (p:Piece)(a:Int):Pt:=p.cs.getD (p.wh a).lN.toNat default
def sq (n:Int):Int:=n*n
def Piece.mesh (p:Piece)(a b:Int):Bool:=p.ms.contains ⟨min a b,max a b⟩
def Piece.far (p:Piece)(a b:Int):Int:=sq ((p.pt a).x - (p.pt b).x)+sq ((p.pt a).y - (p.pt b).y)
def Piece.sum (p:Piece)(a b:Int):Int:=(p.wh a).aU+(p.wh b).aU
def Piece.wR (p:Piece)(a b:Int):Bool:=(p.wh a).lN==(p.wh b).lN
def Piece.level (p:Piece)(a b:Int):Bool:=(p.wh a).layer==(p.wh b).layer
def Piece.I7 (p:Piece)(a b:Int):Bool:=p.wR a b&&(p.wh a).uY==(p.wh b).uY
def Piece.apart (p:Piece)(a b:Int):Bool:=
 p.mesh a b&&(!p.level a b||p.wR a b||decide (p.far a b<sq (p.sum a b))||decide (p.far a b>sq (p.sum a b+p.pl)))
def Piece.touch (p:Piece)(a b:Int):Bool:= !p.mesh a b&&p.level a b&& !p.wR a b&&decide (p.far a b<sq (p.sum a b+p.ga))
def Piece.same (p:Piece)(a b:Int):Bool:=p.wR a b&&p.level a b
def Piece.bounds (p:Piece)(gone:List Int)(o:Int):Nat->List Wh->Int×Int->Int×Int
 | _,[],r=>r
 |i,w::ws,r=>Piece.bounds p gone o (i+1) ws (if p.I7 i o&& !gone.contains (i:Int)then(min r.1 w.layer,max r.2 w.layer)else r)
def Piece.nested (p:Piece)(gone:List Int)(a b:Int):Bool:=
 if !p.wR a b||p.I7 a b||p.level a b then false
 else
  let i:=if(p.wh a).uY>(p.wh b).uY then b else a
  let o:=if(p.wh a).uY>(p.wh b).uY then a else b
  let r:=p.bounds gone o 0 p.ws ((p.wh o).layer,(p.wh o).layer)
  inR (p.wh i).layer (r.1+1) (r.2 - 1)
def Piece.post (p:Piece)(a b:Int):Bool:=decide ((p.wh a).layer<=(p.wh b).layer)&&decide (p.far a b<sq ((p.wh a).aU+p.po))
def Piece.Oq (p:Piece)(a b:Int):Bool:= !p.wR a b&&(p.post a b||p.post b a)
def Piece.YG (p:Piece)(a:Int):Bool:=
 decide ((p.pt a).x<(p.wh a).aU)||decide ((p.pt a).y<(p.wh a).aU)||decide ((p.pt a).x+(p.wh a).aU>p.w)||decide ((p.pt a).y+(p.wh a).aU>p.h)
def Piece.wrong (p:Piece)(gone:List Int)(a b:Int):Int:=
 if a=b then(if p.YG a then 1 else 0)
 else if p.apart a b then 2 else if p.touch a b then 3 else if p.same a b then 4 else if p.nested gone a b then 5 else if p.Oq a b then 6 else 0
end Go.Tel
namespace Go.Am
section
variable {C:Ctx}{base nb na:Nat}{K:St->Prop}{KP:DV->Mem->Prop}{Q:Ex->St->Prop}{env:List (Nat×PV)}{m:Mem}
variable{t:Nat}{b:Bool}
def aJ {d:Option Nat}{op:POp}{args:List Opd}{fl:Nat}{w:Bool}(hb:look env t= .d (.bool b))(h1:b=true->eH C base ⟨d,op,args,some (t,w),fl⟩ K KP ⟨env,m⟩)(a:b=false->eH C base ⟨d,op,args,some (t,w),fl⟩ K KP ⟨env,m⟩):
  eH C base ⟨d,op,args,some (t,w),fl⟩ K KP ⟨env,m⟩:=by cases b;exact a rfl;exact h1 rfl
def aK {x y:aA}(hb:look env t= .d (.bool b))(h1:b=true->pwp C nb na (.cond (.t t) x y) Q ⟨env,m⟩)(a:b=false->pwp C nb na (.cond (.t t) x y) Q ⟨env,m⟩):
  pwp C nb na (.cond (.t t) x y) Q ⟨env,m⟩:=by cases b;exact a rfl;exact h1 rfl
variable {s:St}{bs:List (Option (List PV))}{fz:List Nat}{ass:List (Option Arr)}
def upJ {α:Type}(len:Nat)(E:Nat->α->St)(P:Nat->α->Prop):Nat->St->Prop:=fun n s=>∃i a,i<=len/\n=len - i/\s=E i a/\P i a
variable{b:aA}
def aG {α:Type}(len:Nat)(E:Nat->α->St)(P:Nat->α->Prop)(c:Nat)(d:α)(hi:c<=len)(hs:s=E c d)(f:P c d)
  (j:∀i a,i<len->P i a->pwp C nb na b (Pn nb na (upJ len E P) (len - i) Q) (E i a))
  (g:∀a,P len a->pwp C nb na b (Pn nb na (upJ len E P) 0 Q) (E len a)):pwp C nb na (.loop b) Q s:=by
 refine D5 (upJ len E P) (len - c) ⟨c,d,hi,rfl,hs,f⟩ ?_;rintro n s ⟨i,a,hi,rfl,rfl,e⟩
 by_cases h:i<len
 ·exact j i a h e
 ·obtain rfl:i=len:=by omega
  have:=g a e
  rwa [<-Nat.sub_self i]at this
variable{len i:Nat}
def dh {α:Type}{E:Nat->α->St}{P:Nat->α->Prop}(d:α)(hi:i<len)(hs:(⟨env,⟨bs,fz.filter (fun b=>decide (b<bs.length)),ass⟩⟩:St)=E (i+1) d)(h:P (i+1) d)
  (h1:nb<=bs.length)(h2:na<=ass.length)(f:(env.all fun p=>p.2.upto bs.length ass.length)=true)(g:(bs.all fun c=>(c.getD []).all fun p=>p.upto bs.length ass.length)=true):
  ∃e a,e<len - i/\Weak nb na ⟨env,⟨bs,fz,ass⟩⟩ a/\upJ len E P e a:=⟨len - (i+1),_,by omega,Weak.same h1 h2 f g,i+1,d,by omega,rfl,hs,h⟩
def bQ {α:Type}{E:Nat->α->St}{P:Nat->α->Prop}(n m:Nat)(d:α)(hi:i<len)(hs:(⟨env,⟨bs.take n,fz.filter (fun b=>decide (b<n)),ass.take m⟩⟩:St)=E (i+1) d)(h:P (i+1) d)
  (h1:nb<=n)(h2:na<=m)(f:(env.all fun p=>p.2.upto n m)=true)(g:((bs.take n).all fun c=>(c.getD []).all fun p=>p.upto n m)=true):
  ∃e a,e<len - i/\Weak nb na ⟨env,⟨bs,fz,ass⟩⟩ a/\upJ len E P e a:=⟨len - (i+1),_,by omega,Weak.take h1 h2 f g,i+1,d,by omega,rfl,hs,h⟩
def whJ {α:Type}(E:α->St)(P:α->Prop)(μ:α->Nat):Nat->St->Prop:=fun n s=>∃a,n=μ a/\s=E a/\P a
def kN {α:Type}(E:α->St)(P:α->Prop)(μ:α->Nat)(c:α)(hs:s=E c)(d:P c)
  (f:∀a,P a->pwp C nb na b (Pn nb na (whJ E P μ) (μ a) Q) (E a)):pwp C nb na (.loop b) Q s:=by
 refine D5 (whJ E P μ) (μ c) ⟨c,rfl,hs,d⟩ ?_;rintro n s ⟨a,rfl,rfl,e⟩;exact f a e
def XT {α:Type}{a:α}{E:α->St}{P:α->Prop}{μ:α->Nat}(d:α)(j:μ d<μ a)(hs:(⟨env,⟨bs,fz.filter (fun b=>decide (b<bs.length)),ass⟩⟩:St)=E d)(i:P d)
  (h1:nb<=bs.length)(h2:na<=ass.length)(g:(env.all fun p=>p.2.upto bs.length ass.length)=true)(h:(bs.all fun c=>(c.getD []).all fun p=>p.upto bs.length ass.length)=true):
  ∃f e,f<μ a/\Weak nb na ⟨env,⟨bs,fz,ass⟩⟩ e/\whJ E P μ f e:=⟨μ d,_,j,Weak.same h1 h2 g h,d,rfl,hs,i⟩
def aov {α:Type}(o:Option α)(k:α->Prop):Prop:=match o with|some x=>k x|none=>False
def afQ {α:Type}{x:α}{k:α->Prop}:aov (some x) k=k x:=rfl
def VX (o:Option (List DV))(cs:List PV):PV:=match o with|some ds=> .d (.agg ds)|none=> .agg cs
def acR (o:Option (List DV))(cs:List PV):PV:=match o with|some ds=> .d (.tup ds)|none=> .tup cs
def alz {cs:List PV}:zX cs=VX (gV cs) cs:=rfl
def alC {cs:List PV}:LZ cs=acR (gV cs) cs:=rfl
def aeb {ds:List DV}{cs:List PV}:VX (some ds) cs= .d (.agg ds):=rfl
def agn {ds:List DV}{cs:List PV}:acR (some ds) cs= .d (.tup ds):=rfl
section
variable {M:Mem}{L:PV->Mem->Prop}
def ae6 {zs:List DV}{ps:List (Nat×Nat)}{args:List PV}:au C base (.build zs ps) args M L KP=aov (jY (zs.map .d) ps args) (fun cs=>L (zX cs) M):=by
 rw[ahu];cases jY (zs.map .d) ps args<;>rfl
def afa {cs:List PV}:jY cs [] []=some cs:=rfl
def IJ {cs:List PV}{off n:Nat}{ps:List (Nat×Nat)}{x:DV}{vs:List PV}:jY cs ((off,n)::ps) (.d x::vs)=bif (PV.cells (.d x)).length==n&&decide (off+n<=cs.length)then jY (splice cs off (PV.cells (.d x))) ps vs else none:=by
 simp only[jY,PV.oh,true_and]
 by_cases h1:(PV.cells (.d x)).length=n
 ·by_cases h2:off+n<=cs.length
  ·rw[if_pos ⟨h1,h2⟩];simp[h1,h2]
  ·rw[if_neg (fun h=>h2 h.2)];simp[h1,h2]
 ·rw[if_neg (fun h=>h1 h.1)]
  have:((PV.cells (.d x)).length==n)=false:=by simpa using h1
  rw[this];rfl
def akA {i:Nat}{vs:List DV}:au C base (.ext i) [.d (.tup vs)] M L KP=aov vs[i]? (fun v=>L (.d v) M):=by
 simp only[au];cases vs[i]?<;>rfl
end
def Ux {C:Ctx}(u:C.P.follows .mixedOrders=true){f:FuncId}{ds:List DV}{x:DV}{pc:aA}{l:List iy}{a:Nat}(y:(ds.map PV.d).length=a)(hc:Dc C.P f a pc l=true)
  (h:pwp C 0 0 pc (Qg l (fun p M=>datum M p=some x) (fun _ _=>False)) ⟨sN 0 (ds.map .d),bG⟩):Pure C f ds (.d x) []:=by
 have j:SC C f (ds.map .d) bG (fun p M=>datum M p=some x) (fun _ _=>False):=D6 u y hc h;intro X w g r t B A;refine(j X w ⟨[],[]⟩ g (D8 r t B) (aQ.ofD (A.weaken sG))).mono fun e w' i=> ?_
 cases e with
 |returned v=>
  obtain⟨p,M',m,hd,h2,n,o⟩:=i;have k:xA M' []:=⟨fun q z=>(by cases z),cb⟩
  exact⟨v,_,rfl,Nr h2 k,Gy n k, .d ((jB (ps:=[p]) h2 o hd (by simp)).weaken fun b s=> .inl (sG b s))⟩
 |panicked c=>
  obtain⟨v,d,M',m,_,hh,_⟩:=i;exact hh.elim
 |outgrown=>exact i.elim
def aeX {bs:List (Option (List PV))}{fz:List Nat}{ass:List (Option Arr)}{k ver skip:Nat}{A:Arr}(h:ass[k]?=some (some A))(hv:A.ver=ver):datum ⟨bs,fz,ass⟩ (.tsl k ver skip)=some (.slice false (A.elems.drop skip)):=by
 simp[datum,F9,h,hv]
def Yt {f:Fn}{a b:List DV}:PV.cells (.d (.func f a b))=[.d (.func f a b)]:=rfl
def alo {cs:List DV}:PV.isAgg (.d (.agg cs))=true:=rfl
def rng {i len:Nat}(h:i<len)(hl:len<=1000000):(i:Int)<(len:Int)/\(0:Int)<=(i:Int)/\cr .i64 ((i:Int)+1)=((i+1:Nat):Int):=by
 refine⟨by omega,by omega,?_⟩;rw[Go.IntWalk.i64_in _ (by omega)];omega
end
def al1 {k:Nat}:sN k []=[]:=by rw[sN]
def al2 {k:Nat}{v:PV}{vs:List PV}:sN k (v::vs)=(k,v)::sN (k+1) vs:=by rw[sN]
def alX {a:List iy}{K:PV->Mem->Prop}{KP:DV->Mem->Prop}{s:St}:Qg a K KP .normal s=oK a s (fun vs=>K (resV vs) s.mem):=px
def alY {a:List iy}{K:PV->Mem->Prop}{KP:DV->Mem->Prop}{s:St}:Qg a K KP .ret s=oK a s (fun vs=>K (resV vs) s.mem):=px
def alZ {a:List iy}{K:PV->Mem->Prop}{KP:DV->Mem->Prop}{s:St}{d:DV}:Qg a K KP (.panic d) s=KP d s.mem:=px
def al0 {a:List iy}{K:PV->Mem->Prop}{KP:DV->Mem->Prop}{s:St}{i:Nat}:Qg a K KP (.exit i) s=False:=px
def al3 {s:St}{K:List PV->Prop}:oK [] s K=K []:=px
def al4 {s:St}{K:List PV->Prop}{t:Nat}{l:List iy}:oK (.tmp t::l) s K=oK l s (fun vs=>K (look s.env t::vs)):=px
def al5 {s:St}{K:List PV->Prop}{t n:Nat}{g:Bool}{l:List iy}:oK (.cell t g n::l) s K=bY g n (look s.env t) s.mem (fun v=>oK l s fun vs=>K (v::vs)):=px
def apT:resV []=LZ []:=by rw[resV];intro x h;cases h
def apU {x:PV}:resV [x]=x:=by rw[resV]
def apV {x y:PV}{l:List PV}:resV (x::y::l)=LZ (x::y::l):=by rw[resV];intro x h;cases h
def af2 {α:Type}{cs:List α}{off:Nat}{new:List α}:splice cs off new=cs.take off++new++cs.drop (off+new.length):=by rw[splice]
set_option linter.defProp false in
def RN:=W (W (W (W (W (W (W (@aiX) (W (@afW) (@alQ))) (W (@aiW) (W (@afX) (@alR)))) (W (W (@aaf) (W (@ajx) (@af9))) (W (W (@acI) (@afV)) (W (@Ug) (@aaO))))) (W (W (W (@V5) (W (@aaN) (@Yj))) (W (@Xe) (W (@afI) (@ab8)))) (W (W (@Zi) (W (@acy) (@acw))) (W (W (@ZT) (@ZR)) (W (@ZU) (@Tc)))))) (W (W (W (W (@afh) (W (@Zc) (@WU))) (W (@acG) (W (@Z8) (@al7)))) (W (W (@ajq) (W (@ajt) (@ajp))) (W (W (@ajs) (@ajr)) (W (@al8) (@anz))))) (W (W (W (@anA) (W (@akT) (@akS))) (W (@anB) (W (@akU) (@apE)))) (W (W (@aiV) (W (@aiU) (@ait))) (W (W (@afH) (@ap1)) (W (@ap0) (@anu))))))) (W (W (W (W (W (@YH) (W (@ae5) (@akK))) (W (@ahs) (W (@anq) (@akH)))) (W (W (@ahy) (W (@ahB) (@abo))) (W (W (@abn) (@anp)) (W (@akx) (@aoZ))))) (W (W (W (@ahx) (W (@ahA) (@gB))) (W (@akz) (W (@anr) (@akB)))) (W (W (@akC) (W (@akD) (@aky))) (W (W (@ano) (@ant)) (W (@akG) (@akF)))))) (W (W (W (W (@wu) (W (@YK) (@YI))) (W (@YJ) (W (@abj) (@abh)))) (W (W (@WB) (W (@akk) (@alb))) (W (W (@aln) (@ali)) (W (@alk) (@alm))))) (W (W (W (@ald) (W (@alj) (@alh))) (W (W (@alg) (@alf)) (W (@ale) (@aoH)))) (W (W (@aoI) (W (@aok) (@ao2))) (W (W (@ao3) (@aof)) (W (@apJ) (@aio)))))))) (W (W (W (W (W (W (@als) (W (@afB) (@ain))) (W (@aa3) (W (@aa4) (@Yq)))) (W (W (@Wn) (W (@aa5) (@Yt))) (W (W (@alo) (@akE)) (W (@rU) (@fU))))) (W (W (W (@ah9) (W (@alz) (@alC))) (W (@aeb) (W (@agn) (@afQ)))) (W (W (@ae6) (W (@afa) (@IJ))) (W (W (@akA) (@ahz)) (W (@apR) (@alI)))))) (W (W (W (W (@aiI) (W (@alK) (@afO))) (W (@alJ) (W (@lX) (@aly)))) (W (W (@afC) (W (@ajI) (@acO))) (W (W (@aoi) (@aip)) (W (@ala) (@ah8))))) (W (W (W (@alv) (W (@afE) (@anD))) (W (W (@ahH) (@am2)) (W (@agT) (@X9)))) (W (W (@akX) (W (@anG) (@anF))) (W (W (@agO) (@aec)) (W (@Option.map_some.{0,0}) (@List.mem_cons.{0}))))))) (W (W (W (W (W (@List.not_mem_nil.{0}) (W (@or_false) (@or_self))) (W (@not_false_eq_true) (W (@ne_eq.{1}) (@decide_true)))) (W (W (@decide_false) (W (@cond_true.{1}) (@cond_false.{1}))) (W (W (@Bool.not_true) (@Bool.not_false)) (W (@Nat.zero_add) (@Nat.add_zero))))) (W (W (W (@List.map_cons.{0,0}) (W (@List.map_nil.{0,0}) (@List.cons_append.{0}))) (W (@List.nil_append.{0}) (W (@List.append_nil.{0}) (@List.length_cons.{0})))) (W (W (@List.length_nil.{0}) (W (@List.replicate_succ.{0}) (@List.replicate_zero.{0}))) (W (W (@List.all_cons.{0}) (@List.all_nil.{0})) (W (@Bool.and_true) (@Bool.true_and)))))) (W (W (W (W (@Bool.and_self) (W (@true_and) (@and_true))) (W (@true_implies) (W (@List.set_cons_zero.{0}) (@List.set_cons_succ.{0})))) (W (W (@List.getElem?_cons_zero.{0}) (W (@List.getElem?_cons_succ.{0}) (@List.drop_succ_cons.{0}))) (W (W (@List.drop_zero.{0}) (@List.take_succ_cons.{0})) (W (@List.take_zero.{0}) (@List.getD_cons_zero.{0}))))) (W (W (W (@List.getD_cons_succ.{0}) (W (@al1) (@al2))) (W (W (@alX) (@alY)) (W (@alZ) (@al0)))) (W (W (@al3) (W (@al4) (@al5))) (W (W (@apT) (@apU)) (W (@apV) (@af2))))))))
def Mem.ext (M:Mem)(xb:List (Option (List PV)))(xf:List Nat)(xa:List (Option Arr)):Mem:=⟨M.boxes++xb,xf++M.fz,M.aC++xa⟩
section
variable {C:Ctx}{base:Nat}
variable{args:List PV}{M:Mem}{K:PV->Mem->Prop}{KP KP':DV->Mem->Prop}
def SC.kU {f:FuncId}(h:SC C f args M K KP)(n:∀d M,KP d M->KP' d M):SC C f args M K KP':=by
 intro X w E a m l;refine(h X w E a m l).mono fun e w' b=> ?_
 cases e with
 |returned v=>exact b
 |panicked c=>obtain⟨v,d,M',g,i,j,k⟩:=b;exact⟨v,d,M',g,i,n _ _ j,k⟩
 |outgrown=>exact b
def SY.kU {b:Nat}(h:SY C b args M K KP)(s:∀d M,KP d M->KP' d M):SY C b args M K KP':=by
 intro X w E i l q p r;obtain⟨fn,g,a,f,h1,h2⟩:=h X w E i l q p r;refine⟨fn,g,a,f,h1,h2.mono fun e w' j=> ?_⟩;cases e with
 |returned v=>exact j
 |panicked c=>obtain⟨v,d,M',k,m,n,o⟩:=j;exact⟨v,d,M',k,m,s _ _ n,o⟩
 |outgrown=>exact j
def P7 {op:POp}(b:∀d M',KP d M'->KP' d M')(h:au C base op args M K KP):au C base op args M K KP':=by
 cases op with
 |call f=>exact SC.kU h b
 |KY f=>obtain⟨P,h1,h2,c⟩:=h;exact⟨P,SC.kU h1 b,h2,c⟩
 |Fp agg n f=>
  cases args with
  |nil=>exact h
  |cons a e=>
   simp only[au]at h⊢;obtain⟨v,h1,h2⟩:=jZ.1 h;exact jZ.2 ⟨v,h1,SC.kU h2 b⟩
 |dQ=>
  simp only[au]at h⊢
  split at h
  ·exact⟨h.1,h.2.kU b⟩
  ·exact⟨h.1,h.2.kU b⟩
  ·exact SY.kU h b
  ·exact h.elim
 |inv name=>
  simp only[au]at h⊢
  split at h
  ·obtain⟨f,h1,h2,c⟩:=h
   exact⟨f,h1,h2,c.kU b⟩
  ·exact h.elim
 |panic=>
  simp only[au]at h⊢
  split at h
  ·split at h
   ·exact b _ _ h
   ·exact h.elim
  ·exact h.elim
 | _=>exact h
def Z7 {p:PO}{K a:St->Prop}(hk:∀s,K s->a s)(b:∀d M',KP d M'->KP' d M'){s:St}(h:eH C base p K KP s):eH C base p a KP' s:=by
 unfold eH at h⊢
 split at h
 ·exact⟨h.1,P7 b (EW (fun v M' hh=>hk _ hh) h.2)⟩
 ·split at h
  ·exact⟨fun e=>⟨(h.1 e).1,P7 b (EW (fun v M' hh=>hk _ hh) (h.1 e).2)⟩,fun e=>hk _ (h.2 e)⟩
  ·exact hk _ h
  ·exact h.elim
def Nc {KP KP':DV->Mem->Prop}(c:∀d M',KP d M'->KP' d M'):∀{ps:List PO} {K b:St->Prop} (_:∀s,K s->b s) {s:St},wK C base ps K KP s->wK C base ps b KP' s
 | [],_,_,a,_,h=>a _ h
 | _::_,_,_,a,_,h=>Z7 (fun _ h=>Nc c a h) c h
def RG {K a:St->Prop}(hk:∀s,K s->a s):∀{ts:List Nat} {s:St},sQ ts K s->sQ ts a s
 | [],_,h=>hk _ h
 |t::ts,s,h=>by
  simp only[sQ]at h⊢
  split at h
  ·exact RG hk h
  ·exact h.elim
def lZ {nb na:Nat}:∀{pc:aA} {Q l:Ex->St->Prop} (_:∀e s,Q e s->l e s) {s:St},pwp C nb na pc Q s->pwp C nb na pc l s
 | .skip,_,_,i,_,h=>i _ _ h
 | .label _,_,_,i,_,h=>i _ _ h
 | .exit _,_,_,i,_,h=>i _ _ h
 | .ret,_,_,i,_,h=>i _ _ h
 | .region _ _ _ _ _,_,_,i,_,h=>by
  simp only[pwp]at h⊢;exact Nc (fun d M' h=>i _ _ h) (fun s h=>RG (fun s h=>i _ _ h) h) h
 | .seq a b,_,_,i,_,h=>by
  simp only[pwp]at h⊢;refine lZ (fun e s h=> ?_) h;cases e with
  |normal=>exact lZ i h
  |exit id=>exact i _ _ h
  |ret=>exact i _ _ h
  |panic d=>exact i _ _ h
 | .cond c a b,_,_,i,_,h=>by
  simp only[pwp]at h⊢
  split at h
  ·exact⟨fun e=>lZ i (h.1 e),fun e=>lZ i (h.2 e)⟩
  ·exact h.elim
 | .block id b,_,_,i,_,h=>by
  simp only[pwp]at h⊢;refine lZ (fun e s h=> ?_) h;cases e with
  |normal=>exact i _ _ h
  |exit z=>
   simp only at h⊢
   split at h
   ·rename_i hid;rw[if_pos hid];exact i _ _ h
   ·rename_i hid;rw[if_neg hid];exact i _ _ h
  |ret=>exact i _ _ h
  |panic d=>exact i _ _ h
 | .loop b,_,_,i,_,h=>by
  simp only[pwp]at h⊢;obtain⟨I,n,q,x⟩:=h;refine⟨I,n,q,fun k s y=>lZ (fun e s h=> ?_) (x k s y)⟩;cases e with
  |normal=>exact h
  |exit id=>exact i _ _ h
  |ret=>exact i _ _ h
  |panic d=>exact i _ _ h
 | .scope b,_,_,i,_,h=>by
  simp only[pwp]at h⊢;exact lZ i h
 | .nD f ps o p m,_,_,i,_,h=>by
  simp only[pwp]at h⊢;obtain⟨g,fs,cs,h1,h2,r,t⟩:=h;refine⟨g,fs,cs,h1,h2,r,fun L u fV=>SC.kU (SC.mono (t L u fV) fun v M w=> ?_) fun d M h=>i _ _ h⟩;obtain⟨st,A,cells,B,D,E,j⟩:=w;refine⟨st,A,cells,B,D,E,?_⟩
  split at j
  ·exact i _ _ j
  ·exact i _ _ j
  ·exact i _ _ j
  ·exact j.elim
end
section
variable {C:Ctx}{nb na:Nat}{Q:Ex->St->Prop}
def LY {M:Mem}{L:Loop}{st:LoopState}{a:Option Code}{cells:List PV}{xb:List (Option (List PV))}{xf:List Nat}{xa:List (Option Arr)}:(dN M L st a cells xb xf xa).boxes[M.boxes.length]?=some (some (.fQ {L with state:=st,pending:=a}::cells)):=by simp[dN]
end
def um {C:Ctx}{base b:Nat}{args:List PV}{M:Mem}{K:PV->Mem->Prop}{KP:DV->Mem->Prop}(h:SY C b args M K KP):au C base .dQ (.mV b::args) M K KP:=h
def RY (f:FuncId)(i d:Nat):List Oper->Bool
 | [a,b]=>a.guard.isNone&&b.guard.isNone&&a.dst==some d&&b.dst.isNone&&
  (match a.op with| .makeFunc (.func g) h e=>g==f&&h.isEmpty&&(match e.toList with| [.tmp t]=>t==i| _=>false)| _=>false)&&
  (match b.op with| .defer c=>(match c.callee with| .value (.tmp t)=>t==d| _=>false)&&c.args.isEmpty| _=>false)
 | _=>false
def LU (a:Nat):List Oper->Bool
 | [o]=>o.guard.isNone&&o.dst==some a&&(match o.op with| .call c=>(match c.callee with| .builtin .recover=>true| _=>false)&&c.args.isEmpty| _=>false)
 | _=>false
def Wq (P:Program)(f i:FuncId)(b n g h k l:Nat)(c d e:aA):Bool:=
 match P.funcs[f]?,P.funcs[i]? with
 |some fn,some a=>match fn.body,a.body with
  |some (.seq o (.seq (.region _ j false) m)),some (.seq (.region _ aiK false) p)=>
   fn.ntmps==n&&a.ntmps==g&&decide (b<=n)&&decide (1<=g)&&decide (k<n)&&decide (l<g)&&decide (1<=l)&&decide (h≠k)&&chk P n o c&&chk P n m d&&chk P g p e&&gU e&&Px P fn.results.toList [.cell h false 1]&&a.results.isEmpty&&
    callable P i&&GX h m&&RY i h k j.toList&&LU l aiK.toList&&EI c&&EI d
  | _,_=>false
 | _,_=>false
section
variable {C:Ctx}
def Rep.Xo {w w':World}{O O':Nat->Prop}{M:Mem}{E:Emb}{v:Value}{b o:Nat}(h:Rep w O M E v (.ptr b o)):Rep w' O' M E v (.ptr b o):=by
 cases h with|ptr c a d=>exact .ptr c a d
def Fb (a:Nat)(b:Nat)(K:PV->Mem->Prop)(e:Ex)(s:St):Prop:=
 match e with
 | .normal=>bY false 1 (.ptr b 0) s.mem fun v=>K v s.mem
 | .ret=>bY false 1 (.ptr b 0) s.mem fun v=>K v s.mem
 | _=>False
def aoG (C:Ctx)(f c:Nat)(a:aA)(b:Nat)(K:PV->Mem->Prop)(e:Ex)(s:St):Prop:=
 match e with
 | .normal=>pwp C s.mem.boxes.length s.mem.aC.length a (Fb f b K) ⟨[(0, .ptr b 0),(c, .d .nilIface)],s.mem⟩
 | .ret=>pwp C s.mem.boxes.length s.mem.aC.length a (Fb f b K) ⟨[(0, .ptr b 0),(c, .d .nilIface)],s.mem⟩
 | .panic d=>pwp C s.mem.boxes.length s.mem.aC.length a (Fb f b K) ⟨[(0, .ptr b 0),(c, .d d)],s.mem⟩
 | .exit _=>False
def ajQ (hm:C.P.follows .mixedOrders=true){f f1:FuncId}{n n1 y t3 t5:Nat}{bj bo av:aA}{args:List PV}{M:Mem}{K:PV->Mem->Prop}{KP:DV->Mem->Prop}(hc:Wq C.P f f1 args.length n n1 y t3 t5 bj bo av=true)
  (h:pwp C M.boxes.length M.aC.length bj (fun e s=>e= .normal/\∃b,look s.env y= .ptr b 0/\pwp C s.mem.boxes.length s.mem.aC.length bo (aoG C y t5 av b K) ⟨(t3, .dead)::s.env,s.mem⟩) ⟨sN 0 args,M⟩):SC C f args M K KP:=by
 unfold Wq at hc
 split at hc
 case h_2=>cases hc
 rename_i fn ab ce aqt
 split at hc
 case h_2=>cases hc
 rename_i c0 id bi c2 cM aiK c3 a8 anQ
 simp only[Y,beq_iff_eq,decide_eq_true_eq]at hc;obtain⟨⟨⟨⟨⟨⟨⟨⟨⟨⟨⟨⟨⟨⟨⟨⟨⟨⟨⟨hn,cJ⟩,cK⟩,aqU⟩,cz⟩,cA⟩,aqV⟩,cB⟩,b4⟩,b5⟩,b6⟩,bN⟩,bR⟩,apu⟩,a9⟩,cr⟩,ae⟩,aq⟩,aqC⟩,aqD⟩:=hc;intro X w E z hS hA;have cL:z.length=args.length:=hA.length;have hi:InS C X ⟨w.heap.size,[],false,none⟩ n ⟨sN 0 args,M⟩ {tmps:=z.toArray++bv (fn.ntmps - z.toArray.size) undef,defers:=[]} w E:=
  {sim:=hS
   size:=by simp;omega
   defers:=EK
   fix:=fun _ h=>by cases h
   env:=fun t=>by
    simp only[Kw,Nat.not_lt_zero,if_false,cm];cases ht:args[t]? with
    |none=>exact .dead
    |some p=>
     obtain⟨v,hv,hr⟩:=hA.get' t p ht;have cq:t<z.length:=(ap.1 hv).1;have:({tmps:=z.toArray++bv (fn.ntmps - z.toArray.size) undef,defers:=[]}:Act).eval (.tmp t)=v:=by
      simp only[Act.eval,bl];rw[a6 (by simpa using cq)];simp[hv]
     rw[this];exact hr}
 have aL:∀b,C.low b->b<w.heap.size:=fun b hb=>hS.xlt b (hS.iF b hb)
 refine(callsIn_wide (n:=0)).1 (callsIn_of_wp_marks (F:=Fence.wide) ce a8 trivial ?_);refine wpIn_seq (F:=RF none) (wpIn_mono (CU hm c0 bj (ai _) (ai _) aqC none [] false none _ _ _ w E (fun _ h=>by cases h) (.inl rfl) (fun e=>by cases e) b4 h hi (.refl _ _ _)) fun e i w1 V=> ?_);cases e with
 |exit id=>obtain⟨_,_,_,_,⟨H,_⟩,_⟩:=V;cases H
 |ret=>obtain⟨_,_,_,_,⟨H,_⟩,_⟩:=V;cases H
 |panic ch=>obtain⟨_,_,_,_,_,_,_,⟨H,_⟩,_⟩:=V;cases H
 |goto l=>exact V.elim
 |outgrown=>exact V.elim
 |normal=>
  obtain⟨X1,s1,E1,cG,⟨_,b,aqM,ct⟩,L,bw⟩:=V;have afr:=L.env y;rw[aqM]at afr;obtain⟨c,ac⟩:∃c,i.eval (.tmp y)= .pointer (some ⟨c,0,none⟩):=by
   generalize i.eval (.tmp y)=v at afr;cases afr with
   |ptr hl hb ho=>exact⟨_,rfl⟩
  rw[ac]at afr;unfold RY at ae
  split at ae
  case h_2=>cases ae
  rename_i o1 o2 aM
  simp only[Y,beq_iff_eq,bp]at ae;obtain⟨⟨⟨⟨⟨cf,cg⟩,b8⟩,b9⟩,az⟩,aD⟩:=ae;obtain⟨bi,rfl⟩:∃l:List Oper,bi=l.toArray:=⟨bi.toList,by simp⟩
  simp only at aM;subst aM
  split at az
  case h_2=>cases az
  rename_i g fi ca bE
  simp only[Y,beq_iff_eq,bq]at az;obtain⟨⟨rfl,rfl⟩,T⟩:=az
  split at T
  case h_2=>cases T
  rename_i t ao8
  simp only[beq_iff_eq]at T;have T:=T.symm;subst T;obtain⟨ca,rfl⟩:∃l:List Operand,ca=l.toArray:=⟨ca.toList,by simp⟩
  simp only at ao8;subst ao8
  split at aD
  case h_2=>cases aD
  rename_i cl bL
  simp only[Y,bq]at aD;obtain⟨Qu,anT⟩:=aD
  split at Qu
  case h_2=>cases Qu
  rename_i S ao9
  simp only[beq_iff_eq]at Qu;subst Qu;obtain⟨D1,a5⟩:∃D1:Deferred,D1={target:= .fn (.func g) #[.pointer (some ⟨c,0,none⟩)],args:= #[]}:=⟨_,rfl⟩
  obtain⟨cN,apm,apj,_⟩:=L.defers;rw[bk]at apm;have be:(execOp i.eval o1).run C.P w1= .ok (.value (.func (.func g) #[] #[.pointer (some ⟨c,0,none⟩)])) w1:=by simp[execOp,bE,Instr.makeFunc,ac]
  have cc:(i.put (some S) (.func (.func g) #[] #[.pointer (some ⟨c,0,none⟩)])).eval (.tmp S)= .func (.func g) #[] #[.pointer (some ⟨c,0,none⟩)]:=by
   rw[sO,if_pos ⟨rfl,by rw[L.size];exact cz⟩]
  have bh:(execOp (i.put (some S) (.func (.func g) #[] #[.pointer (some ⟨c,0,none⟩)])).eval o2).run C.P w1= .ok (.defer D1) w1:=by
   simp[execOp,bL,resolve,ao9,anT,cc,Deferred.ofValue,a5]
  refine wpIn_seq (F:=RF none) (wpIn_region (F:=RF none) ?_)
  show wpOpsIn (RF none) 0 C.P [o1,o2].toArray _ [0,1] i w1
  have cD:Region.wanted o1 (yielded [o1,o2].toArray i.tmps)=true:=by simp[Region.wanted,cf]
  have cE:∀a:Act,Region.wanted o2 (yielded [o1,o2].toArray a.tmps)=true:=fun a=>by simp[Region.wanted,cg]
  simp only[wpOpsIn,bA,bu,List.getElem?_cons_succ,cD,cE,if_true];refine⟨fun _ _=>trivial,?_⟩;rw[show Oper.semAt (RF none).round i.eval o1=execOp i.eval o1 from rfl,be];simp only[Oper.uponIn_value,b8];refine⟨fun _ _=>trivial,?_⟩;rw[show Oper.semAt (RF none).round (i.put (some S) (.func (.func g) #[] #[.pointer (some ⟨c,0,none⟩)])).eval o2=execOp (i.put (some S) (.func (.func g) #[] #[.pointer (some ⟨c,0,none⟩)])).eval o2 from rfl,bh];simp only[Oper.uponIn_defer,b9]
  show(Code.wpIn (RF none) 0 C.P c2 (bodyPostM (RF none) 0 C.P fn fun e w'=>Fin C X w M E K KP w' e)) {i.put (some S) (.func (.func g) #[] #[.pointer (some ⟨c,0,none⟩)])with defers:=D1::i.defers} w1
  have ck:InS C X1 ⟨w1.heap.size,D1::i.defers,false,some (y, .pointer (some ⟨c,0,none⟩))⟩ n ⟨(S, .dead)::s1.env,s1.mem⟩ {i.put (some S) (.func (.func g) #[] #[.pointer (some ⟨c,0,none⟩)])with defers:=D1::i.defers} w1 E1:=
   {sim:=L.sim
    size:=by simp[Act.put,L.size]
    defers:=EK
    fix:=fun q hq=>by
     cases hq
     show(i.put (some S) _).eval (.tmp y)=_
     rw[sO,if_neg fun hh=>cB hh.1];exact ac
    env:=fun t=>by
     show Rep _ _ _ _ ((i.put (some S) _).eval (.tmp t)) _
     rw[sO];simp only[look]
     by_cases ht:S=t
     ·subst ht;simp only[beq_self_eq_true,cond_true];exact .dead
     ·have h1:(S==t)=false:=by simp[ht]
      have h2:¬(t=S/\S<i.tmps.size):=fun hh=>ht hh.1.symm
      simp only[h1,cond_false,if_neg h2];exact L.env t}
  refine wpIn_mono (F:=RF none) (CU hm c2 bo (ai _) (ai _) aqD none (D1::i.defers) false (some (y, .pointer (some ⟨c,0,none⟩))) _ _ _ w1 E1 (fun q hq=>by cases hq;exact cr) (.inl rfl) (fun e=>by cases e) b5 ct ck (.refl _ _ _)) fun e a2 w2 V=> ?_
  have hD:∀(u u':FrameMode) (o:Nat->Prop) (j:World) (x:Mem) (m:Emb) (d:DV) (v:Value),u≠ .run->(∀b,X1 b->o b)->Sim C o j x m->From w1 s1.mem E1 j x m->bK j (away o x m) v d->okM w.heap.size o i.defers j->
    (∀(Q:Frame) (cs:List Frame),Q.mode=u->(∃B,(recoverD (Q::cs)=some (v,B)/\B={Q with mode:=u'}::cs))\/(recoverD (Q::cs)=none/\v= .nilIface/\u'=u))->settle u'= .returning->
    pwp C x.boxes.length x.aC.length av (Fb y b K) ⟨[(0, .ptr b 0),(t5, .d d)],x⟩->
    ∀NC:Array Value,(NC.getD y undef= .pointer (some ⟨c,0,none⟩))->LeavesInM Fence.wide 0 C.P fn NC (fun e w'=>Fin C X w M E K KP w' e) (D1::i.defers) u j:=by
   intro u u' o j x m d v hu k aw a7 bc Qi bO bS ah3 NC cC;have aqc:From w M E j x m:=bw.trans a7;refine⟨hu, .inr ⟨fun h=>by simp[Fence.wide]at h, .func g, #[.pointer (some ⟨c,0,none⟩)],g, #[.pointer (some ⟨c,0,none⟩)],by rw[a5],by rw[a5];simp[invoke,uU a9],fun _ _=>trivial,?_⟩⟩;refine callsDIn_of_wpSIn (F:=Fence.wide) aqt anQ trivial fun Q cs ao=> ?_
   unfold LU at aq
   split at aq
   case h_2=>cases aq
   rename_i r amF
   simp only[Y,beq_iff_eq,bp]at aq;obtain⟨⟨cj,bt⟩,aE⟩:=aq;obtain⟨aiK,rfl⟩:∃l:List Oper,aiK=l.toArray:=⟨aiK.toList,by simp⟩
   simp only at amF;subst amF
   split at aE
   case h_2=>cases aE
   rename_i clr aqG
   simp only[Y,bq]at aE;obtain⟨bs,apb⟩:=aE
   split at bs
   case h_2=>cases bs
   rename_i amB
   have apv:∀a:Act,(execOp a.eval r).run C.P j= .ok .recover j:=fun a=>by
    obtain⟨cal,cH,cI⟩:=clr;simp only at amB apb;subst amB apb;simp[execOp,aqG,resolve,invoke]
    rfl
   obtain⟨a3,ax⟩:∃a3:Act,a3={tmps:= #[.pointer (some ⟨c,0,none⟩)]++bv (ab.ntmps - #[Value.pointer (some ⟨c,0,none⟩)].size) undef,defers:=[]}:=⟨_,rfl⟩
   rw[<-ax];have aR:a3.tmps.size=n1:=by rw[ax];simp;omega
   have br:∀B,B={Q with mode:=u'}::cs->Code.wpSIn Fence.wide 0 C.P c3 (bodyPostS C.P ab Q cs fun e u' w'=>match e with
     | .returned _=>LeavesInM Fence.wide 0 C.P fn NC (fun e w'=>Fin C X w M E K KP w' e) i.defers (settle u') w'
     | .panicked chain=>LeavesInM Fence.wide 0 C.P fn NC (fun e w'=>Fin C X w M E K KP w' e) i.defers (raised u' chain) w'
     | .outgrown=>Fin C X w M E K KP w' .outgrown) (a3.put (some t5) v) B j:=by
    rintro B rfl;refine wpSIn_of_wpIn rfl ?_;have cn:InS C o ⟨j.heap.size,[],true,none⟩ n1 ⟨[(0, .ptr b 0),(t5, .d d)],x⟩ (a3.put (some t5) v) j m:=
     {sim:=aw
      size:=by simp[Act.put,aR]
      fix:=fun _ h=>by cases h
      defers:=by
       have:(a3.put (some t5) v).defers=[]:=by rw[ax];rfl
       rw[this];exact EK
      env:=fun t=>by
       rw[sO,aR];simp only[look]
       by_cases bX:0=t
       ·subst bX
        have:¬(0=t5/\t5<n1):=fun hh=>by omega
        rw[if_neg this];simp only[beq_self_eq_true,cond_true];have e0:a3.eval (.tmp 0)= .pointer (some ⟨c,0,none⟩):=by
         rw[ax];simp only[Act.eval,bl];rw[a6 (by simp)]
         rfl
        rw[e0];exact(afr.from a7).Xo
       ·have h0:(0==t)=false:=by simp[bX]
        simp only[h0,cond_false]
        by_cases apy:t5=t
        ·subst apy
         rw[if_pos ⟨rfl,cA⟩];simp only[beq_self_eq_true,cond_true];exact .d bc
        ·have h5:(t5==t)=false:=by simp[apy]
         simp only[h5,cond_false];exact .dead}
    have:=CU hm c3 av (nb:=x.boxes.length) (na:=x.aC.length) (M₀:=x) (E₀:=m) (w₀:=j) (ai _) (ai _) (lu bN) none [] true none _ _ _ j m (fun _ h=>by cases h) (.inl rfl) (fun _=>bN) b6 ah3 cn (.refl _ _ _);refine wpIn_mono (F:=RF none) this fun e a4 w4 W=> ?_
    have a0:∀(X4:Nat->Prop) (O:St) (E4:Emb),(∀b,o b->X4 b)->Fb y b K .normal O->InS C X4 ⟨j.heap.size,[],true,none⟩ n1 O a4 w4 E4->From j x m w4 O.mem E4->
      a4.defers=[]/\∃u2,({Q with mode:=u'}::cs:List Frame)={Q with mode:=u2}::cs/\∃v,(results ab a4.tmps).run C.P w4= .ok v w4/\LeavesInM Fence.wide 0 C.P fn NC (fun e w'=>Fin C X w M E K KP w' e) i.defers (settle u2) w4:=by
     intro X4 O E4 Z G U J;obtain⟨cP,aqw,_,aqp⟩:=U.defers;have cb:a4.defers=[]:=by rw[aqw,aqp rfl];rfl
     refine⟨cb,u',rfl,?_⟩;have cv:(results ab a4.tmps).run C.P w4= .ok (.tuple #[]) w4:=by
      rw[Tv];have:ab.results= #[]:=by simpa using apu
      rw[this];simp
     refine⟨_,cv,?_⟩;rw[bS];have apk:okM w.heap.size X4 i.defers w4:=by
      refine⟨fun d hd=> ?_,Qi.2⟩;obtain⟨D,R,q2,q3,q4⟩:=Qi.1 d hd;exact⟨D,R,q2,Z _ q3,J.keep _ _ (fun ho=>aw.KA ho q3) q4⟩
     have b0:From w M E w4 O.mem E4:=aqc.trans J;rw[<-bk i.defers];refine oO (by simp) apk fun w5 A=> ?_
     obtain⟨R,q2,q3⟩:=Il U.sim aL b0 apk A;have aps:Rep w5 (away X4 O.mem E4) O.mem E4 (.pointer (some ⟨c,0,none⟩)) (.ptr b 0):=(((afr.from a7).Xo (O':=away o x m) (w':=j)).from J).Xo;have cp:InS C X4 ⟨w5.heap.size,[],true,none⟩ NC.size ⟨[(y, .ptr b 0)],O.mem⟩ {tmps:=NC,defers:=[]} w5 E4:=
      {sim:=R,size:=rfl,defers:=EK,fix:=fun _ h=>by cases h
       env:=fun t=>by
        simp only[look]
        by_cases ht:y=t
        ·subst ht;simp only[beq_self_eq_true,cond_true]
         have:({tmps:=NC,defers:=[]}:Act).eval (.tmp y)= .pointer (some ⟨c,0,none⟩):=cC;rw[this];exact aps
        ·have h1:(y==t)=false:=by simp[ht]
         simp only[h1,cond_false];exact .dead}
     have cw:oK [.cell y false 1] ⟨[(y, .ptr b 0)],O.mem⟩ (fun vs=>K (resV vs) O.mem):=by
      simp only[oK,look,beq_self_eq_true,cond_true,resV];exact G
     obtain⟨v5,cQ,g1,g2,g3⟩:=JM cp bR cw;have bB:∀b,X b->X4 b:=fun b hb=>Z b (k b (cG b hb))
     exact⟨v5,g1,_,O.mem,E4,g2,R.less bB hS.iF,q2,g3.less bB⟩
    cases e with
    |normal=>
     obtain⟨X4,O,E4,Z,G,U,J⟩:=W;exact a0 X4 O E4 Z G U J
    |ret=>
     obtain⟨X4,O,E4,Z,G,U,J⟩:=W;exact a0 X4 O E4 Z G U J
    |exit id=>obtain⟨_,_,_,_,H,_⟩:=W;exact H.elim
    |panic ch=>obtain⟨_,_,_,_,_,_,_,H,_⟩:=W;exact H.elim
    |goto l=>exact W.elim
    |outgrown=>exact W.elim
   refine wpSIn_seq (wpSIn_region ?_)
   show wpOpsSIn Fence.wide 0 C.P [r].toArray _ [0] a3 (Q::cs) j
   have cF:Region.wanted r (yielded [r].toArray a3.tmps)=true:=by simp[Region.wanted,cj]
   simp only[wpOpsSIn,bA,bu,cF,if_true,apv];refine⟨fun _ _=>trivial,?_⟩
   rcases bO Q cs ao with⟨B,R,q2⟩|⟨R,q2,q3⟩
   ·rw[R]
    simp only[bt];exact br B q2
   ·rw[R]
    simp only[bt];rw[<-q2];exact br (Q::cs) (by rw[q3,<-ao])
  have am:∀b,C.low b->b<w1.heap.size:=fun b hb=>by have:=aL b hb;have:=bw.size;omega
  have an:∀(o:Nat->Prop) (w2 j:World) (x:Mem) (m:Emb) (N:List Deferred),(∀b,X1 b->o b)->From w1 s1.mem E1 w2 x m->okM w1.heap.size o N w2->Shut N w2 j->okM w.heap.size o i.defers j:=by
   intro o w2 j x m N k I Qi A;rw[apm];refine⟨fun d hd=> ?_,apj.2⟩;obtain⟨D,R,q2,q3,q4⟩:=apj.1 d hd;refine⟨D,R,q2,k _ q3,?_⟩;rw[A.keep D fun d' b7 H=> ?_]
   ·exact I.keep _ _ (fun ho=>L.sim.KA ho q3) q4
   ·obtain⟨D',g1,g2,_,_⟩:=Qi.1 d' b7
    rw[g1]at H
    injection H with H
    have:=dw q4;omega
  have ret:∀(o:Nat->Prop) (s2:St) (m:Emb),(∀b,X1 b->o b)->pwp C s2.mem.boxes.length s2.mem.aC.length av (Fb y b K) ⟨[(0, .ptr b 0),(t5, .d .nilIface)],s2.mem⟩->
    InS C o ⟨w1.heap.size,D1::i.defers,false,some (y, .pointer (some ⟨c,0,none⟩))⟩ n s2 a2 w2 m->From w1 s1.mem E1 w2 s2.mem m->LeavesInM Fence.wide 0 C.P fn a2.tmps (fun e w'=>Fin C X w M E K KP w' e) a2.defers .returning w2:=by
   intro o s2 m k ah3 an0 I;obtain⟨N,an6,Qi,_⟩:=an0.defers;rw[an6];refine oO (by simp) Qi fun j A=> ?_
   obtain⟨R,q2,q3⟩:=Il an0.sim am I Qi A;refine hD .returning .returning o j s2.mem m .nilIface .nilIface (by simp) k R q2 .nilIface (an o w2 j s2.mem m N k I Qi A) (fun Q cs hm=> .inr ⟨by simp[recoverD,hm],rfl,rfl⟩) rfl ah3 _ ?_;exact an0.fix _ rfl
  cases e with
  |normal=>obtain⟨o,s2,m,k,h1,h2,h3⟩:=V;exact ret o s2 m k h1 h2 h3
  |ret=>obtain⟨o,s2,m,k,h1,h2,h3⟩:=V;exact ret o s2 m k h1 h2 h3
  |exit id=>obtain⟨_,_,_,_,H,_⟩:=V;exact H.elim
  |goto l=>exact V.elim
  |outgrown=>exact V.elim
  |panic ch=>
   obtain⟨o,v,d,x,m,k,rfl,ah3,aw,I,bc,⟨N,an6,Qi,_⟩,bz⟩:=V
   show LeavesInM Fence.wide 0 C.P fn a2.tmps (fun e w'=>Fin C X w M E K KP w' e) a2.defers (.panicking [{v,recovered:=false}]) w2
   rw[an6];refine oO (by simp) Qi fun j A=> ?_
   obtain⟨R,q2,q3⟩:=Il aw am I Qi A;refine hD (.panicking [{v,recovered:=false}]) (.panicking [{v,recovered:=true}]) o j x m d v (by simp) k R q2 (bc.mono q3) (an o w2 j x m N k I Qi A) (fun Q cs hm=> .inl ⟨_,by simp[recoverD,hm],rfl⟩) rfl ah3 _ ?_;exact bz _ rfl
end
open Go.Sort
def Gw:∀xs:List Int,flat (xs.map (DV.int .i64))=xs.map (DV.int .i64)
 | []=>rfl
 |x::xs=>by
  have:=Gw xs;simp only[flat]at this⊢;simp only[an,bR,this]
  rfl
def Tq {w:World}{O:Nat->Prop}:∀xs:List Int,aV w O (xs.map (Value.int .i64)) (xs.map (DV.int .i64))
 | []=> .nil
 |x::xs=> .cons (.int _ _) (Tq xs)
def EU {w:World}{O:Nat->Prop}:∀{vs:List Value} {xs:List Int},aV w O vs (xs.map (DV.int .i64))->vs=xs.map (Value.int .i64)
 | _,[], .nil=>rfl
 | _,x::xs, .cons h t=>by
  cases h;rw[EU t]
  rfl
section
variable {C:Ctx}
def XJ {ρ:Go.Shelf.Ren}(M:Go.Proofs.Lays.n189 C.P ρ){k ver:Nat}{zs:List Int}{bs:List (Option (List PV))}{fz:List Nat}{ar:List (Option Arr)}{K:PV->Mem->Prop}{KP:DV->Mem->Prop}
  (h:ar[k]?=some (some ⟨1,zs.map (DV.int .i64),ver,1⟩))(hz:zs≠[])(hl:zs.length<4611686018427387904)
  (S:K (.d (.tup [])) ⟨bs,fz,ar.set k (some ⟨1,(zs.mergeSort fun x y=>decide (x<=y)).map (DV.int .i64),ver,1⟩)⟩):SC C (ρ.f 189) [.tsl k ver 0] ⟨bs,fz,ar⟩ K KP:=by
 intro X w E L J Q;cases Q with|cons V W=>
 cases W;cases V with|tsl B hh=>
 obtain⟨_,m⟩:=hh _ h;obtain⟨ac,i,z⟩:=m rfl;obtain⟨s1,s2,s3,s4⟩:=J.arr k _ h;obtain⟨q,F⟩:=s3 rfl;rw[F]at i;cases i;obtain⟨a,o,e⟩:=q;obtain⟨hX,vs,T,g2,N,g4,v⟩:=s4 a o e F;obtain⟨_,z⟩:=z
 rcases z with⟨I,U,_,_⟩|⟨O,_⟩
 case inr=>exact absurd (by simpa using O) hz
 cases U;simp only[Z,cq]at N v;rw[Gw]at v;have g:=EU v;have R:Holds (Value.int .i64) w a o zs.toArray:=by
  intro j u;have c:j<zs.length:=by simpa using u
  have m:vs[o+j]?=some (.int .i64 zs[j]):=by
   have:=congrArg (fun l=>l[j]?) g;simp only[ax,c,if_true,be,aR,br,ab c,b5]at this;exact this
  refine⟨?_,?_⟩
  ·rw[cell_of_row w a (o+j) vs T.ty T.fr g2,m]
   simp[c]
  ·have B:o+j<vs.size:=(Array.getElem?_eq_some_iff.1 m).1
   obtain⟨ty,⟨f1,f2⟩,D⟩:=T;simp only at D g2;simp[World.frozen?,g2];intro hh;omega
 have p:a<w.heap.size:=dw g2;simp only[Z,cm,cn,Nat.add_zero];refine(Go.Proofs.Any.slices_Sort_int M a o _ zs w R p hl).mono ?_;rintro en w' ⟨rfl,n,os,rfl⟩;generalize H:(zs.mergeSort fun x y=>decide (x<=y))=ss at*;have G:ss.length=zs.length:=by rw[<-H,List.length_mergeSort]
 have Y:Wrote a w (putRow (Value.int .i64) (Go.Sort.ahead w n) a o ss.toArray) (putCells (Value.int .i64) o ss.toArray vs).toList T.ty T.fr:=
  {os:=rfl
   tape:=rfl
   output:=rfl
   size:=by simp[putRow,mapBlock,Go.Sort.ahead]
   at_:=by simp[putRow,mapBlock,Go.Sort.ahead,bw,g2,onCells]
   keep:=fun b A=>by simp[putRow,mapBlock,Go.Sort.ahead,bw,Ne.symm A]}
 have s:((putCells (Value.int .i64) o ss.toArray vs).toList.drop o).take zs.length=ss.map (Value.int .i64):=by
  apply bO;intro j;rw[ax,be,aR,br]
  by_cases u:j<zs.length
  ·rw[if_pos u]
   have c:j<ss.length:=by omega
   have m:o+j<vs.size:=by omega
   simp[putCells,m,c]
  ·rw[if_neg u,bz (by omega)];rfl
 have t:=KN (el:=ss.map (DV.int .i64)) J h rfl F g2 (by simp[G]) (by intro x hx;obtain⟨y,_,rfl⟩:=bj.1 hx;rfl) (by simp[putCells]) (by
  simp only[Z,cq];rw[Gw,s];exact Tq ss) Y
 have r:Later (putRow (Value.int .i64) (Go.Sort.ahead w n) a o ss.toArray) (grow (putRow (Value.int .i64) (Go.Sort.ahead w n) a o ss.toArray) os):=
  ⟨rfl,rfl,rfl,by simp[grow],fun b A=>by simp only[grow];rw[a6 A]⟩
 exact⟨_,_,E,S,t.1.later r,t.2.trans (r.from _ _), .d (.tup .nil)⟩
end
section
variable {C:Ctx}
def QN {X:Nat->Prop}:∀b,away X bG ⟨[],[]⟩ b->X b:=by
 rintro b (h|⟨i,cs,h,_⟩|⟨k,A,o,e,h,_⟩)
 ·exact h
 ·simp[bG]at h
 ·simp[bG]at h
variable{f:FuncId}{ds:List DV}
def TN {Kr:DV->Prop}{Kp:DV->Prop}(h:SC C f (ds.map .d) bG (fun v M'=>∃x,datum M' v=some x/\Kr x.strip) (fun d _=>Kp d)){M:Mem}{K:PV->Mem->Prop}{KP:DV->Mem->Prop}
  (t:∀x,Kr x->K (.d x) M)(u:∀d,Kp d->KP d M):SC C f (ds.map .d) M K KP:=by
 intro X w E a i s;have k:∀b,C.low b->away X M E b:=fun b g=> .inl (i.iF b g)
 have q:∀b,away X M E b->b<w.heap.size:=fun b g=>i.wQ g
 have n:aQ w (away (away X M E) bG ⟨[],[]⟩) bG ⟨[],[]⟩ a (ds.map .d):=by
  refine aQ.ofD ?_;have:aV w (away X M E) a ds:=aQ.toL s;exact this.weaken QN
 refine(h (away X M E) w ⟨[],[]⟩ a (D8 i.glob k q) n).mono fun e w' o=> ?_
 cases e with
 |returned v=>
  obtain⟨p,M',r,⟨x,hd,A⟩,h2,l,m⟩:=o;have j:=l.BJ;refine⟨.d x.strip,M,E,t _ A,i.later j,j.from M E, .d ?_⟩;exact((jB (ps:=[p]) h2 m hd (by simp)).weaken fun b g=> .inl g).strip
 |panicked c=>
  obtain⟨v,d,M',r,y,z,h2,l,m⟩:=o;have j:=l.BJ;exact⟨v,d,M,E,y,u _ z,i.later j,j.from M E,m.weaken fun b g=> .inl g⟩
 |outgrown=>exact o.elim
def rD {r:DV}
  (h:∀(X:Nat->Prop) (w:World) (a:List Value),C.G w->(∀b,X b->b<w.heap.size)->aV w X a ds->Calls C.P f a.toArray w fun e w'=>∃v,e= .returned v/\Later w w'/\bK w' X v r):Pure C f ds (.d r) []:=by
 intro X w a g l i m;refine(h X w a g i m).mono fun e w' k=> ?_
 obtain⟨v,rfl,c,n⟩:=k;have j:Sim C X w bG ⟨[],[]⟩:=D8 g l i;exact⟨v,⟨[],[]⟩,rfl,j.later c,c.from _ _, .d (n.weaken QN)⟩
end
def FzB (M:Mem):Prop:=∀i∈M.fz,i<M.boxes.length
structure Kept (n:Nat) (own tN:Nat->Prop) (M M':Mem):Prop where
 len:M.boxes.length<=M'.boxes.length
 bC:M.aC.length<=M'.aC.length
 box:∀i,(n<=i\/own i)->i<M.boxes.length->M'.boxes[i]?=M.boxes[i]?
 fz:∀i,(n<=i\/own i)->i<M.boxes.length->(i∈M'.fz↔i∈M.fz)
 row:∀k,tN k->M'.aC[k]?=M.aC[k]?
 fzb:FzB M->FzB M'
structure Moved (n:Nat) (own:Nat->Prop) (M M':Mem):Prop where
 len:M.boxes.length<=M'.boxes.length
 box:∀i,i<n->¬own i->M'.boxes[i]?=M.boxes[i]?
 fz:∀i,i<n->¬own i->(i∈M'.fz↔i∈M.fz)
 aC:M'.aC=M.aC
 fzb:FzB M->FzB M'
def Kept.refl {n:Nat}{own tN:Nat->Prop}(M:Mem):Kept n own tN M M:=⟨ai _,ai _,fun _ _ _=>rfl,fun _ _ _=>cj,fun _ _=>rfl,id⟩
def Moved.refl {n:Nat}{own:Nat->Prop}(M:Mem):Moved n own M M:=⟨ai _,fun _ _ _=>rfl,fun _ _ _=>cj,rfl,id⟩
def Kept.trans {n:Nat}{own tN:Nat->Prop}{M M' a:Mem}(h:Kept n own tN M M')(h':Kept n own tN M' a):Kept n own tN M a:=
 ⟨bo h.len h'.len,bo h.bC h'.bC,fun i hi b=>(h'.box i hi (az b h.len)).trans (h.box i hi b),fun i hi b=>(h'.fz i hi (az b h.len)).trans (h.fz i hi b),fun k c=>(h'.row k c).trans (h.row k c),fun d=>h'.fzb (h.fzb d)⟩
def Moved.trans {n:Nat}{own:Nat->Prop}{M M' a:Mem}(h:Moved n own M M')(h':Moved n own M' a):Moved n own M a:=
 ⟨bo h.len h'.len,fun i hi b=>(h'.box i hi b).trans (h.box i hi b),fun i hi b=>(h'.fz i hi b).trans (h.fz i hi b),h'.aC.trans h.aC,fun c=>h'.fzb (h.fzb c)⟩
variable{M M':Mem}
def Moved.less {n m:Nat}{own a:Nat->Prop}(h:Moved n own M M')(c:m<=n)(ho:∀i,i<m->own i->a i):Moved m a M M':=
 ⟨h.len,fun i hi b=>h.box i (az hi c) fun h=>b (ho i hi h),fun i hi b=>h.fz i (az hi c) fun h=>b (ho i hi h),h.aC,h.fzb⟩
variable{bs xb:List (Option (List PV))}{fz xf:List Nat}{ar:List (Option Arr)}
def Moved.ext {n:Nat}{own:Nat->Prop}(b:n<=bs.length)(hx:∀i∈xf,n<=i/\i<bs.length+xb.length):Moved n own ⟨bs,fz,ar⟩ ⟨bs++xb,xf++fz,ar⟩:=
 ⟨by simp,fun i hi _=>by rw[a8 (az hi b)],fun i hi _=>by
  simp only[aE];exact⟨fun h=>h.elim (fun h=>absurd (hx i h).1 (by omega)) id, .inr⟩,rfl,fun a i hi=>by
  simp only[bh]
  rcases aE.1 hi with h|h
  ·exact(hx i h).2
  ·have:=a i h;simp only at this;omega⟩
def FzB.set {M:Mem}{i:Nat}{x:Option (List PV)}(h:FzB M):FzB {M with boxes:=M.boxes.set i x}:=fun j a=>by simpa using h j a
def Moved.set {n:Nat}{own:Nat->Prop}{M:Mem}{i:Nat}{x:Option (List PV)}(hi:n<=i\/own i):Moved n own M {M with boxes:=M.boxes.set i x}:=
 ⟨by simp,fun j b a=>by
  have:i≠j:=by rintro rfl;exact hi.elim (fun h=>by omega) a
  simp[this],fun _ _ _=>cj,rfl,fun h=>h.set⟩
def Kept.set {n:Nat}{own tN:Nat->Prop}{M:Mem}{i:Nat}{x:Option (List PV)}(hi:i<n)(ho:¬own i):Kept n own tN M {M with boxes:=M.boxes.set i x}:=
 ⟨by simp,ai _,fun j a _=>by
  have:i≠j:=by rintro rfl;exact a.elim (fun h=>by omega) ho
  simp[this],fun _ _ _=>cj,fun _ _=>rfl,fun h=>h.set⟩
def Kept.set2 {n:Nat}{own tN:Nat->Prop}{i:Nat}{x:Option (List PV)}(h:Kept n own tN M M')(hi:i<n)(ho:¬own i):Kept n own tN M {M' with boxes:=M'.boxes.set i x}:=h.trans (.set hi ho)
def Kept.ext {n:Nat}{own tN:Nat->Prop}{ar':List (Option Arr)}(hx:∀i∈xf,bs.length<=i/\i<bs.length+xb.length)(hl:ar.length<=ar'.length)(b:∀k,tN k->ar'[k]?=ar[k]?):Kept n own tN ⟨bs,fz,ar⟩ ⟨bs++xb,xf++fz,ar'⟩:=
 ⟨by simp,hl,fun i _ hi=>by rw[a8 hi],fun i _ hi=>by
  simp only[aE];exact⟨fun h=>h.elim (fun h=>absurd (hx i h).1 (by simp only at hi;omega)) id, .inr⟩,b,fun a i hi=>by
  simp only[bh]
  rcases aE.1 hi with h|h
  ·exact(hx i h).2
  ·have:=a i h;simp only at this;omega⟩
section
variable {C:Ctx}
variable{f:FuncId}{ds:List DV}
def bM {x:DV}(h:SC C f (ds.map .d) bG (fun p M=>datum M p=some x) (fun _ _=>False)):Pure C f ds (.d x) []:=by
 intro X w a m o t s;refine(h X w ⟨[],[]⟩ a (D8 m o t) (aQ.ofD (s.weaken sG))).mono fun e w' g=> ?_
 cases e with
 |returned v=>
  obtain⟨p,M',j,hd,h2,k,l⟩:=g;have i:xA M' []:=⟨fun q r=>(by cases r),cb⟩
  exact⟨v,_,rfl,Nr h2 i,Gy k i, .d ((jB (ps:=[p]) h2 l hd (by simp)).weaken fun b n=> .inl (sG b n))⟩
 |panicked c=>
  obtain⟨v,d,M',j,_,hh,_⟩:=g;exact hh.elim
 |outgrown=>exact g.elim
def Jj (M:Mem)(p:PV)(sz:Nat)(xs:List DV)(st:Nat):Prop:=∃k ver,p= .tsl k ver 0/\M.aC[k]?=some (some ⟨sz,xs,ver,st⟩)
def Jj.datum {M:Mem}{p:PV}{sz st:Nat}{xs:List DV}(h:Jj M p sz xs st):Go.Am.datum M p=some (.slice false xs):=by
 obtain⟨k,ver,rfl,h⟩:=h;simp[Go.Am.datum,Mem.row,h]
def Ic {sz st:Nat}{xs:List DV}(a:SC C f (ds.map .d) bG (fun p M=>Jj M p sz xs st) (fun _ _=>False)):Pure C f ds (.tsl 0 0 0) [⟨sz,xs,0,st⟩]:=by
 refine EN (SC.mono a fun p M h=> ?_);obtain⟨k,ver,rfl,h⟩:=h;refine⟨[(k,0)],⟨fun q b=>by simp only[bE]at b;subst b;simp[BK,h],by simp⟩,?_,?_⟩
 ·simp[ren,Ti,Mem.row,h,Nb]
 ·simp[mkRow,h]
end
def QF (C:Ctx)(g:FuncId)(fs cs:List PV)(xs:List (List DV))(own f tN:Nat->Prop)(st:Mem->Prop):Prop:=
 ∀(M:Mem) (b n:Nat) (R:List (List DV)->Mem->Prop) (stop:Mem->Prop) (K:PV->Mem->Prop) (KP:DV->Mem->Prop),b<n->¬own b->n<=M.boxes.length->(∀i∈M.fz,i<M.boxes.length)->st M->
  (∀a c e,Moved n f c e->R a c->R a e)->
  (∀a x post c,xs=a++x::post->n<=c.boxes.length->R a c->
   SY C b (x.map .d) c (fun p M'=>Kept n own tN c M'/\((p= .d (.bool true)/\R (a++ [x]) M')\/(p= .d (.bool false)/\stop M'))) KP)->
  R [] M->(∀p M',stop M'->K p M')->(∀p M',n<=M'.boxes.length->R xs M'->K p M')->SC C g (fs++ [.mV b]++cs) M K KP
variable{off:Nat}{ps:List (Nat×Nat)}{vs:List PV}
def WC {cs:List PV}{p:PV}(h1:p.cells=[p])(h2:p.oh=false)(h:off+1<=cs.length):jY cs ((off,1)::ps) (p::vs)=jY (splice cs off [p]) ps vs:=by
 simp[jY,h1,h2,h]
variable{k v s:Nat}
def afc {cs:List PV}(h:off+1<=cs.length):jY cs ((off,1)::ps) (.tsl k v s::vs)=jY (splice cs off [.tsl k v s]) ps vs:=WC rfl rfl h
variable{b o:Nat}
def afb {cs:List PV}(h:off+1<=cs.length):jY cs ((off,1)::ps) (.ptr b o::vs)=jY (splice cs off [.ptr b o]) ps vs:=WC rfl rfl h
def J9 {cs:List PV}(h:off+1<=cs.length):jY cs ((off,1)::ps) (.mref b::vs)=jY (splice cs off [.mref b]) ps vs:=WC rfl rfl h
def ae9 {cs a:List PV}{off n:Nat}(h1:a.length=n)(h:off+n<=cs.length):jY cs ((off,n)::ps) (.agg a::vs)=jY (splice cs off a) ps vs:=by
 simp[jY,PV.cells,PV.oh,h1,h]
variable{l:List PV}
def bD:gV (.tsl k v s::l)=none:=rfl
def UJ:gV (.mref b::l)=none:=rfl
def gQ {cs:List PV}:PV.cells (.agg cs)=cs:=rfl
def Me:PV.one (.mref b)=true:=rfl
def Kt {cs:List PV}:PV.oh (.agg cs)=false:=rfl
def kQ:gV (.ptr b o::l)=none:=rfl
variable{fn:Fn}{f c:List PV}
def cells_func:PV.cells (.func fn f c)=[.func fn f c]:=rfl
def C9:PV.cells (.ptr b o)=[.ptr b o]:=rfl
def dJ:PV.cells (.tsl k v s)=[.tsl k v s]:=rfl
def J3:PV.cells (.mV b)=[.mV b]:=rfl
def GN:PV.oh (.mV b)=false:=rfl
def RX:PV.oh (.ptr b o)=false:=rfl
def GY:PV.one (.func fn f c)=true:=rfl
def Qx:PV.one (.ptr b o)=true:=rfl
def dO:PV.one (.tsl k v s)=true:=rfl
section
variable {C:Ctx}{nb na:Nat}{Q:Ex->St->Prop}
def kE (env:List (Nat×PV))(b:Nat)(L:Loop)(cells:List PV)(own tN:Nat->Prop)(c:Mem)(more:Mem->Prop)(Q:Ex->St->Prop)(e:Ex)(s:St):Prop:=
 match e with
 | .normal=>s.mem.boxes[b]?=some (some (.fQ {L with state:= .busy,pending:=none}::cells))/\b∉s.mem.fz/\Kept (b+1) own tN c s.mem/\more s.mem
 | .ret=>s.mem.boxes[b]?=some (some (.fQ {L with state:= .busy,pending:=none}::cells))/\b∉s.mem.fz/\Kept (b+1) own tN c s.mem/\∀a,Moved b (fun _=>False) s.mem a->Q .ret ⟨env,a⟩
 | .exit id=>s.mem.boxes[b]?=some (some (.fQ {L with state:= .busy,pending:=none}::cells))/\b∉s.mem.fz/\Kept (b+1) own tN c s.mem/\∀a,Moved b (fun _=>False) s.mem a->Q (.exit id) ⟨env,a⟩
 | .panic d=>Q (.panic d) ⟨[],s.mem⟩
def Du {b:Nat}{own tN:Nat->Prop}{c M':Mem}{x y:Option (List PV)}(hb:b<c.boxes.length)(ho:¬own b)(h:Kept (b+1) own tN {c with boxes:=c.boxes.set b x} M'):Kept (b+1) own tN c {M' with boxes:=M'.boxes.set b y}:=by
 have e:c.boxes.length<=M'.boxes.length:=by simpa using h.len
 refine⟨by simpa using h.len,h.bC,fun i hi a=> ?_,fun i hi a=>h.fz i hi (by simpa using a),h.row,fun hb=>(h.fzb hb.set).set⟩;have d:b≠i:=by rintro rfl;exact hi.elim (fun h=>by omega) ho
 have:=h.box i hi (by simpa using a)
 simpa[d]using this
def oI {f:Opd}{ps keys:List Nat}{asg body:aA}{s:St}{g:FuncId}{fs cs:List PV}{xs:List (List DV)}{own E tN:Nat->Prop}{st:Mem->Prop}(hit:QF C g fs cs xs own E tN st)(J:∀i,E i->own i)(hv:ahI (s.val f)=some (g,fs,cs))(hc:callable C.P g=true)
  (Dp:∀i∈s.mem.fz,i<s.mem.boxes.length)(K:∀x∈xs,x.length=ps.length)(c:∀i,own i->i<s.mem.boxes.length)(z:∀M',Moved s.mem.boxes.length (fun _=>False) s.mem M'->st M')
  (I:List (List DV)->Mem->Prop)(u:∀pre a j,Moved s.mem.boxes.length E a j->I pre a->I pre j)(W:I [] s.mem)
  (hb:∀(L:Loop) (cells:List PV) (pre:List (List DV)) (x:List DV) (post:List (List DV)) (a:Mem),xs=pre++x::post->s.mem.boxes.length<a.boxes.length->
   a.boxes[s.mem.boxes.length]?=some (some (.fQ {L with state:= .busy,pending:=none}::cells))->s.mem.boxes.length∉a.fz->I pre a->∀N:Mem,
   pwp C nb na asg (fun e M=>e= .normal/\M.mem=N/\pwp C nb na body (kE s.env s.mem.boxes.length L cells own tN a (I (pre++ [x])) Q) ⟨M.env,a⟩) ⟨ps.zip (x.map .d)++iq s.env keys,N⟩)
  (O:∀a,I xs a->s.mem.boxes.length<a.boxes.length->Q .normal ⟨s.env,a⟩):
  pwp C nb na (.nD f ps keys asg body) Q s:=by
 have t:s.mem.boxes.length∉s.mem.fz:=fun h=>Nat.lt_irrefl _ (Dp _ h)
 refine⟨g,fs,cs,hv,hc,t,fun L Z fV=> ?_⟩;generalize F:(List.range L.tmps.size).map (look s.env)=cells at fV⊢;obtain⟨b,l⟩:∃b,b=s.mem.boxes.length:=⟨_,rfl⟩
 rw[<-l]at fV t Dp c z u hb O⊢;have w:Moved b (fun _=>False) s.mem (dN s.mem L .ready none cells [] [] []):=by
  rw[l];refine⟨by simp[dN],fun i hi _=> ?_,fun i hi _=>by simp[dN],by simp[dN],fun hb i hi=> ?_⟩
  ·simp only[dN]
   rw[a8 hi]
  ·have:=hb i (by simpa[dN]using hi)
   simp[dN];omega
 have y:(dN s.mem L .ready none cells [] [] []).boxes[b]?=some (some (.fQ {L with state:= .ready,pending:=none}::cells)):=by rw[l];exact LY
 have k:∀(e:Ex) (st:LoopState) (D:Option Code) (M':Mem),M'.boxes[b]?=some (some (.fQ {L with state:=st,pending:=D}::cells))->st≠ .busy->b∉M'.fz->
   (match D with|none=>e= .normal|some .ret=>e= .ret|some (.exit id)=>e= .exit id| _=>False)->(∀j,Moved b (fun _=>False) M' j->Q e ⟨s.env,j⟩)->afterLoop Q s.env b L M':=by
  intro e st D M' h1 h2 q r X;refine⟨st,D,cells,h1,h2,q,?_⟩;have G:∀x,Q e ⟨s.env,{M' with boxes:=M'.boxes.set b x}⟩:=fun x=>X _ (Moved.set (.inl (ai _)))
  match D,r with
  |none,r=>subst r;exact G _
  |some .ret,r=>subst r;exact G _
  |some (.exit id),r=>subst r;exact G _
 refine hit _ b (b+1) (fun pre a=>a.boxes[b]?=some (some (.fQ {L with state:= .ready,pending:=none}::cells))/\b∉a.fz/\I pre a)
  (fun M'=>afterLoop Q s.env b L M') _ _ (by omega) (fun h=>by have:=c _ h;omega) (by rw[l];simp[dN]) (fun i hi=>by simp only[dN,aL,bh,bX,List.length_nil]at hi⊢;have:=Dp i hi;rw[<-l];omega) (z _ w) ?_ ?_ ⟨y,by simpa[dN]using t,u _ _ _ (w.less (ai _) fun _ _ h=>h.elim) W⟩ (fun _ _ h=>h) ?_
 ·rintro pre a j m ⟨h1,h2,q⟩
  have v:¬E b:=fun h=>by have:=c _ (J _ h);omega
  exact⟨by rw[m.box b (by omega) v];exact h1,fun h=>h2 ((m.fz b (by omega) v).1 h),u _ _ _ (m.less (by omega) fun _ _ h=>h) q⟩
 ·rintro pre x post a R Y ⟨h1,h2,q⟩
  have v:¬own b:=fun h=>by have:=c _ h;omega
  refine fV x _ _ a (K x (by rw[R];simp)) h1 h2 ?_;have H:=hb L cells pre x post {a with boxes:=a.boxes.set b (some (.fQ {L with state:= .busy,pending:=none}::cells))} R (by simp only[List.length_set];omega) (by rw[List.getElem?_set];simp;omega) h2 (u _ _ _ (Moved.set (.inl (ai _))) q) a;refine lZ ?_ H;rintro e M ⟨T,U,V⟩;refine⟨T,U,lZ ?_ V⟩;intro S s2 h;cases S with
  |normal=>
   obtain⟨n,o,A,B⟩:=h;refine⟨cells,n,o,Du (by omega) v A, .inl ⟨rfl,?_,o,u _ _ _ (Moved.set (.inl (ai _))) B⟩⟩;have:=(ap.1 n).1;simp[this]
  |ret=>
   obtain⟨n,o,A,B⟩:=h;refine⟨cells,n,o,Du (by omega) v A, .inr ⟨rfl,k .ret .done (some .ret) _ ?_ (by simp) o rfl fun j m=>B j ((Moved.set (.inl (ai _))).trans m)⟩⟩;have:=(ap.1 n).1;simp[this]
  |exit id=>
   obtain⟨n,o,A,B⟩:=h;refine⟨cells,n,o,Du (by omega) v A, .inr ⟨rfl,k (.exit id) .done (some (.exit id)) _ ?_ (by simp) o rfl fun j m=>B j ((Moved.set (.inl (ai _))).trans m)⟩⟩;have:=(ap.1 n).1;simp[this]
  |panic d=>exact h
 ·rintro p a Y ⟨h1,h2,q⟩
  refine k .normal .ready none a h1 (by simp) h2 rfl fun j m=>O j (u _ _ _ (m.less (ai _) fun _ _ h=>h.elim) q) ?_
  have:=m.len;omega
end
end Go.Am
namespace Go.Tel
open Go.Am
namespace F
end F
namespace T
abbrev int:TypeId:=3
abbrev bool:TypeId:=4
abbrev string:TypeId:=9
abbrev bI:TypeId:=317
abbrev iZ:TypeId:=323
abbrev rH:TypeId:=363
abbrev fG:TypeId:=368
abbrev bP:TypeId:=372
abbrev eP:TypeId:=374
abbrev dS:TypeId:=376
abbrev fH:TypeId:=378
abbrev NS:TypeId:=458
abbrev aeY:TypeId:=460
end T
noncomputable def C:Ctx:=
 {P:=Go.Proofs.Tryz.prog
  low:=fun b=>Go.Proofs.Tryz.prog.globalNamed "internal/strconv.uint64pow10" =some b
  G:=fun w=>Go.Lib.TabIs Go.Proofs.Tryz.prog w "internal/strconv.uint64pow10" .u64 Go.Lib.pow10Tab
  keeps:=fun w w' h hk=>by
   unfold Go.Lib.TabIs World.var? at h⊢;cases hg:Go.Proofs.Tryz.prog.globalNamed "internal/strconv.uint64pow10" with
   |none=>rw[hg]at h;exact h
   |some g=>
    rw[hg]at h;simp only[Option.bind_some]at h⊢;rw[hk g hg];exact h}
def mixed:C.P.follows .mixedOrders=true:=by kernel_rfl
variable{f:FuncId}{ds:List DV}
def eU {r:PV}{ls:List Arr}(pc:aA)(a:List iy)(h:pwp C 0 0 pc (Qg a (fun p M=>∃L,xA M L/\ren M L p=r/\L.map (mkRow M)=ls) (fun _ _=>False)) ⟨sN 0 (ds.map .d),bG⟩)(hc:Dc C.P f (ds.map PV.d).length pc a=true:=by kernel_rfl):Pure C f ds r ls:=ZP mixed rfl hc h
def ah {x:DV}(pc:aA)(a:List iy)(h:pwp C 0 0 pc (Qg a (fun p _=>p= .d x) (fun _ _=>False)) ⟨sN 0 (ds.map .d),bG⟩)(hc:Dc C.P f (ds.map PV.d).length pc a=true:=by kernel_rfl):Pure C f ds (.d x) []:=JJ mixed rfl hc h
def aB {args:List PV}{M:Mem}{K:PV->Mem->Prop}{KP:DV->Mem->Prop}(pc:aA)(a:List iy)(h:pwp C M.boxes.length M.aC.length pc (Qg a K KP) ⟨sN 0 args,M⟩)(hc:Dc C.P f args.length pc a=true:=by kernel_rfl):SC C f args M K KP:=D6 mixed rfl hc h
end Go.Tel
namespace Go.Am
abbrev dI (n:Int):DV:= .int .i64 n
abbrev sF (l:List DV):DV:= .slice false l
abbrev pI (n:Int):PV:= .d (.int .i64 n)
end Go.Am
namespace Go.Tel
open Go.Am
abbrev kI (n:Int):Opd:= .c (.int .i64 n)
abbrev mv (d a:Nat):PO:=⟨some d, .mov,[.t a],none,0⟩
abbrev mk (d:Nat)(a:Opd):PO:=⟨some d, .mov,[a],none,0⟩
abbrev oa (d:Nat)(o:POp)(a:Nat):PO:=⟨some d,o,[.t a],none,0⟩
abbrev ob (d:Nat)(o:POp)(a b:Nat):PO:=⟨some d,o,[.t a, .t b],none,0⟩
abbrev oc (d:Nat)(o:POp)(a:Nat)(b:Opd):PO:=⟨some d,o,[.t a,b],none,0⟩
abbrev on (d:Nat)(o:POp)(l:List Opd):PO:=⟨some d,o,l,none,0⟩
abbrev of (d:Nat)(o:POp)(l:List Opd)(f:Nat):PO:=⟨some d,o,l,none,f⟩
abbrev ot (d:Nat)(o:POp)(l:List Opd)(g f:Nat):PO:=⟨some d,o,l,some (g,true),f⟩
abbrev oF (d:Nat)(o:POp)(l:List Opd)(g f:Nat):PO:=⟨some d,o,l,some (g,false),f⟩
abbrev lo (d a:Nat):PO:=⟨some d, .load false 1,[.t a],none,0⟩
abbrev os (o:POp)(l:List Opd)(f:Nat):PO:=⟨none,o,l,none,f⟩
abbrev rg (l:List PO)(n:Nat)(k:List Nat):aA:= .region false l n k []
abbrev ou (d:Nat)(o:POp)(a f:Nat):PO:=⟨some d,o,[.t a],none,f⟩
abbrev ov (d:Nat)(o:POp)(a g f:Nat):PO:=⟨some d,o,[.t a],some (g,true),f⟩
abbrev ow (d:Nat)(o:POp)(a g f:Nat):PO:=⟨some d,o,[.t a],some (g,false),f⟩
abbrev lv (d a:Nat):PO:=⟨some d, .load false 1,[.t a],none,1⟩
abbrev fa (d n a:Nat):PO:=⟨some d, .fld n,[.t a],none,0⟩
abbrev fu (d n a f:Nat):PO:=⟨some d, .fld n,[.t a],none,f⟩
abbrev lw (d n a:Nat):PO:=⟨some d, .load true n,[.t a],none,0⟩
abbrev ba (d n a:Nat):PO:=⟨some d, .box n,[.t a],none,0⟩
abbrev xa (d n a:Nat):PO:=⟨some d, .ext n,[.t a],none,0⟩
abbrev oi (d:Nat)(o:POp)(a:Nat)(n:Int):PO:=⟨some d,o,[.t a, .c (.int .i64 n)],none,0⟩
abbrev sk (n a b f:Nat):PO:=⟨none, .store n,[.t a, .t b],none,f⟩
abbrev pf (d a b:Nat):PO:=⟨some d, .pick,[.t a, .t b, .c (.bool false)],none,0⟩
abbrev pt (d a b:Nat):PO:=⟨some d, .pick,[.t a, .c (.bool true), .t b],none,0⟩
abbrev mf (d:Nat)(b:Bool):PO:=⟨some d, .mov,[.c (.bool b)],none,0⟩
abbrev mi (d:Nat)(n:Int):PO:=⟨some d, .mov,[.c (.int .i64 n)],none,0⟩
abbrev ag (d n:Nat):PO:=⟨some d, .VY n,[.c (.slice true [])],none,0⟩
abbrev ix (d n a b:Nat):PO:=⟨some d, .bH n,[.t a, .t b],none,0⟩
abbrev sr (l:List PO)(n:Nat)(k:List Nat)(p:aA):aA:= .seq (.region false l n k []) p
abbrev z0:DV:= .int .i64 0
abbrev zs:DV:= .slice true []
abbrev r0 (l:List PO)(n:Nat)(k z:List Nat):aA:= .region false l n k z
abbrev r1 (l:List PO)(n:Nat)(k z:List Nat):aA:= .region true l n k z
abbrev lq (d a g:Nat):PO:=⟨some d, .load false 1,[.t a],some (g,false),0⟩
abbrev ob1 (d:Nat)(o:POp)(a b f:Nat):PO:=⟨some d,o,[.t a, .t b],none,f⟩
abbrev obT (d:Nat)(o:POp)(a b g f:Nat):PO:=⟨some d,o,[.t a, .t b],some (g,true),f⟩
abbrev obF (d:Nat)(o:POp)(a b g f:Nat):PO:=⟨some d,o,[.t a, .t b],some (g,false),f⟩
abbrev al (d i:Nat)(z:List DV):PO:=⟨some d, .alloc i z,[],none,0⟩
abbrev cx (t e:Nat):aA:= .cond (.t t) .skip (.exit e)
abbrev cd (t:Nat)(p q:aA):aA:= .cond (.t t) p q
abbrev sw (p q:aA):aA:= .seq p q
abbrev pA:POp:= .bin .add
abbrev pN:POp:= .un .not
abbrev pL:POp:= .bin .lss
abbrev pE:POp:= .bin .eql
abbrev pU:POp:= .bin .sub
abbrev pM:POp:= .bin .mul
abbrev pQ:POp:= .bin .neq
abbrev pG:POp:= .bin .gtr
abbrev lp (p:aA):aA:= .block 0 (.loop p)
abbrev b1 (p:aA):aA:= .block 1 p
abbrev s0 (l:List PO)(n:Nat)(k z:List Nat)(q:aA):aA:= .seq (.region false l n k z) q
abbrev ze:DV:= .str ⟨#[]⟩
abbrev cS:Opd:= .c (.slice true [])
abbrev ld:POp:= .load false 1
abbrev zd:List DV:=[zs,zs,zs,z0,z0,zs,z0,zs,z0,z0,z0,zs,z0,z0,z0,z0,z0,zs,zs]
def aH:List iy:=[.tmp 4]
def aI:List iy:=[.tmp 2]
def jv:List iy:=[.tmp 6]
def dX:List iy:=[]
def bn:List iy:=[.tmp 4, .tmp 5]
def P6:List iy:=[.tmp 6, .tmp 7]
def amP:List iy:=[.cell 2 true 2, .tmp 3, .tmp 4]
def amQ:List iy:=[.cell 2 true 2]
def JO:List iy:=[.tmp 3]
def JQ:List iy:=[.cell 4 true 2]
def Xt:List iy:=[.tmp 2, .tmp 3, .tmp 4]
def ai8:List iy:=[.tmp 10, .tmp 11]
def Xu:List iy:=[.tmp 8, .tmp 9]
def Xv:List iy:=[.cell 2 true 3]
def Xw:List iy:=[.tmp 13, .tmp 14]
def OB:List iy:=[.tmp 8]
def wJ:List iy:=[.tmp 5]
def Xx:List iy:=[.cell 4 true 7]
def Ij:List iy:=[.cell 4 true 3, .tmp 5]
def ai9:List iy:=[.cell 4 true 3]
def aja:List iy:=[.cell 8 true 2, .tmp 9]
def ajb:List iy:=[.cell 4 true 10]
def ajc:List iy:=[.cell 10 true 8]
def OC:List iy:=[.tmp 2, .tmp 3]
def ajd:List iy:=[.cell 6 true 3, .tmp 7]
def aje:List iy:=[.cell 2 true 17]
def Xz:List iy:=[.cell 2 true 2, .tmp 3]
def ajf:List iy:=[.cell 0 true 12]
def ajg:List iy:=[.cell 0 true 24]
def ajh:List iy:=[.cell 2 true 8]
def aji:List iy:=[.cell 2 true 6]
def ajj:List iy:=[.tmp 6, .cell 7 true 2]
def ajk:List iy:=[.cell 4 true 4, .tmp 5]
def XA:List iy:=[.tmp 9]
def XB:List iy:=[.tmp 7]
def ajl:List iy:=[.cell 0 true 17]
def OD:List iy:=[.cell 0 true 2]
def ajm:List iy:=[.cell 0 true 3]
def ajn:List iy:=[.cell 0 true 8]
def ajo:List iy:=[.tmp 0]
def z1:((0:Int)==0)=true:=rfl
def j0:(0:Int)<=0:=by omega
def t0:(0:Int).toNat=0:=rfl
def t1:(1:Int).toNat=1:=rfl
def t2:(2:Int).toNat=2:=rfl
def jL:aA:=(sr [mf 4 false] 0 [0,1] (sw (sr [mv 6 0,oa 7 .len 6,oi 8 pU 7 1,mv 5 8] 0 [0,1,5] (lp (sw (sr [mv 9 5,oi 10 pG 9 0] 0 [0,1,5,10] (cx 10 0)) (sw (b1 (sw (r1 [mv 13 1,mv 14 0,mv 15 5,ob1 16 (.bH 2) 14 15 1,ou 17 (.load true 2) 16 1,mv 18 0,mv 19 5,oi 20 pU 19 1,ob1 21 (.bH 2) 18 20 1,ou 22 (.load true 2) 21 1,on 23 .dQ [.t 13,.t 17,.t 22],oi 24 pL 23 0] 0 [0,1,5,24] []) (cd 24 (sr [mf 4 false] 0 [4] .ret) .skip))) (rg [mv 11 5,oi 12 pU 11 1,mv 5 12] 0 [0,1,5]))))) (sr [mf 4 true] 0 [4] .ret)))
def jJ:aA:=(sr [mf 4 false] 0 [0,1] (sr [mv 5 0,mv 6 1,ob 7 (.aj 140) 5 6,oi 8 (.bin .geq) 7 0,mv 4 8] 0 [4] .ret))
def Ad:aA:=(sr [mi 4 0] 0 [0,1] (sr [mv 7 0,oa 8 (.aj 141) 7,mv 5 8] 0 [0,1,5] (sr [mv 9 1,oa 10 (.aj 141) 9,mv 6 10] 0 [0,1,5,6] (sw (sr [mv 11 5] 0 [0,1,6,11] (cd 11 (sw (sr [mv 12 6] 0 [12] (cd 12 (sr [mi 4 0] 0 [4] .ret) .skip)) (sr [mi 4 (-1)] 0 [4] .ret)) .skip)) (sw (sr [mv 13 6] 0 [0,1,13] (cd 13 (sr [mi 4 1] 0 [4] .ret) .skip)) (sw (sr [mv 14 0,mv 15 1,ob 16 pL 14 15] 0 [0,1,16] (cd 16 (sr [mi 4 (-1)] 0 [4] .ret) .skip)) (sw (sr [mv 17 0,mv 18 1,ob 19 pG 17 18] 0 [19] (cd 19 (sr [mi 4 1] 0 [4] .ret) .skip)) (sr [mi 4 0] 0 [4] .ret))))))))
def kG:aA:=(s0 [ba 3 0 1,mf 4 false] 1 [0,3] [3] (sr [mv 5 0,lw 6 2 3,ob 7 (.aj 142) 5 6,oi 8 (.bin .geq) 7 0,mv 4 8] 0 [4] .ret))
def xR:aA:=(sr [mf 4 false] 0 [0,1] (sr [mv 5 0,mv 6 1,ob 7 (.aj 150) 5 6,mv 4 7] 0 [4] .ret))
def DN:aA:=(sr [ba 1 0 0,mk 2 (.c (.nilFunc))] 1 [1] (sr [oa 3 (.mkF (.func 151) 0) 1,mv 2 3] 0 [2] .ret))
def vV:aA:=(sr [mk 4 (.c ze)] 0 [0,1] (sr [mv 5 0,mv 6 1,ob 7 (.aj 159) 5 6,mv 4 7] 0 [4] .ret))
def kX:aA:=(s0 [ba 3 0 1,mf 4 false] 1 [0,3] [3] (sr [mv 5 0,lw 6 2 3,ob 7 (.aj 161) 5 6,oi 8 (.bin .geq) 7 0,mv 4 8] 0 [4] .ret))
def jD:aA:=(sr [mf 4 false] 0 [0,1] (sr [mv 5 0,mv 6 1,ob 7 (.aj 162) 5 6,oi 8 (.bin .geq) 7 0,mv 4 8] 0 [4] .ret))
def lH:aA:=(sr [mf 4 false] 0 [0,1] (sr [mv 5 0,mv 6 1,ob 7 (.aj 172) 5 6,oi 8 (.bin .geq) 7 0,mv 4 8] 0 [4] .ret))
def jI:aA:=(sr [mf 4 false] 0 [0,1] (sr [mv 5 0,mv 6 1,ob 7 (.aj 173) 5 6,oi 8 (.bin .geq) 7 0,mv 4 8] 0 [4] .ret))
def oG:aA:=(sr [mf 4 false] 0 [0,1] (sr [mv 5 0,mv 6 1,ob 7 (.aj 193) 5 6,oi 8 (.bin .geq) 7 0,mv 4 8] 0 [4] .ret))
def xP:aA:=(sr [ag 4 1] 0 [0,1] (sw (sr [mv 9 1,oi 10 pL 9 0] 0 [0,1,10] (cd 10 (rg [on 11 (.mkI T.string) [.c (.str ⟨#[99,97,110,110,111,116,32,98,101,32,110,101,103,97,116,105,118,101]⟩)],os .panic [.t 11] 0] 0 [0,1]) .skip)) (sr [mv 13 0,oa 14 .len 13,oa 15 (.conv .u64) 14,mv 16 1,oa 17 (.conv .u64) 16,ob 18 (.aj 169) 15 17,mv 12 18,xa 19 0 12,xa 20 1 12,mv 5 19,mv 6 20] 0 [0,5,6] (sw (sr [mv 21 5,oc 22 pG 21 (.c (.int .u64 0)),mv 23 22,ow 24 .mov 6 23 0,oF 25 pG [.t 24,.c (.int .u64 9223372036854775807)] 23 0,pt 26 23 25] 0 [0,6,26] (cd 26 (rg [on 27 (.mkI T.string) [.c (.str ⟨#[116,104,101,32,114,101,115,117,108,116,32,111,102,32,40,108,101,110,40,120,41,32,42,32,99,111,117,110,116,41,32,111,118,101,114,102,108,111,119,115]⟩)],os .panic [.t 27] 0] 0 [0,6]) .skip)) (sr [mv 28 6,oa 29 (.conv .i64) 28,ob 30 (.mkRow 1 (.int .i64 0)) 29 29,mv 7 30] 0 [0,7] (sr [mv 31 7,mv 32 0,ob 33 (.copy 1) 31 32,mv 8 33] 0 [7,8] (sw (lp (sw (sr [mv 34 8,mv 35 7,oa 36 .len 35,ob 37 pL 34 36] 0 [7,8,37] (cx 37 0)) (b1 (r1 [mv 38 8,mv 39 7,mv 40 8,ob 41 (.UC 1) 39 40,mv 42 7,mv 43 8,ob 44 (.UD 1) 42 43,ob 45 (.copy 1) 41 44,ob 46 pA 38 45,mv 8 46] 0 [7,8] [])))) (sr [mv 47 7,mv 4 47] 0 [4] .ret))))))))
def uJ:aA:=(sr [mf 4 false] 0 [0,1] (sr [mv 5 0,mv 6 1,ob 7 (.aj 196) 5 6,oi 8 (.bin .geq) 7 0,mv 4 8] 0 [4] .ret))
def jS:aA:=(sr [mi 6 0] 0 [0,1,2] (sw (sr [mv 11 0,oa 12 .len 11,mi 13 0] 0 [0,1,2,11,12,13] (lp (sr [ob 14 pL 13 12] 0 [0,1,2,11,12,13,14] (sw (cx 14 0) (sw (b1 (s0 [mv 15 13,ix 16 2 11 13,lw 17 2 16,al 8 0 [z0,z0],mv 7 15,sk 2 8 17 0] 1 [0,1,2,7,8,11,12,13] [8] (sw (sr [mv 18 7,mv 19 1,oa 20 .len 19,ob 21 (.bin .geq) 18 20] 0 [0,1,2,7,8,11,12,13,21] (cd 21 (sr [mi 6 1] 0 [6] .ret) .skip)) (s0 [mv 22 1,mv 23 7,ix 24 2 22 23,lw 25 2 24,al 9 0 [z0,z0],sk 2 9 25 0] 1 [0,1,2,8,9,11,12,13] [9] (sr [mv 26 2,lw 27 2 8,lw 28 2 9,on 29 .dQ [.t 26,.t 27,.t 28],mv 10 29] 0 [0,1,2,10,11,12,13] (sr [mv 30 10,oi 31 pQ 30 0] 0 [0,1,2,10,11,12,13,31] (cd 31 (sr [mv 32 10,mv 6 32] 0 [6] .ret) .skip))))))) (rg [oi 33 pA 13 1,mv 13 33] 0 [0,1,2,11,12,13])))))) (sw (sr [mv 34 0,oa 35 .len 34,mv 36 1,oa 37 .len 36,ob 38 pL 35 37] 0 [38] (cd 38 (sr [mi 6 (-1)] 0 [6] .ret) .skip)) (sr [mi 6 0] 0 [6] .ret))))
def Jy:aA:=(sr [mi 2 0] 0 [0] (sr [mi 3 0] 0 [0,3] (sw (sr [mv 6 0,oa 7 .len 6,mi 8 0] 0 [3,6,7,8] (lp (sr [ob 9 pL 8 7] 0 [3,6,7,8,9] (sw (cx 9 0) (sw (b1 (sr [ix 10 1 6 8,lo 11 10,mv 5 11] 0 [3,5,6,7,8] (sr [mv 12 5,mv 13 3,ob 14 pQ 12 13] 0 [3,5,6,7,8,14] (cd 14 (sr [mv 15 5,mv 2 15] 0 [2] .ret) .skip)))) (rg [oi 16 pA 8 1,mv 8 16] 0 [3,6,7,8])))))) (sr [mv 17 3,mv 2 17] 0 [2] .ret))))
def bU:aA:=(sr [mi 4 0] 0 [0,1] (sw (sr [mv 6 0,oa 7 .len 6,mi 8 0] 0 [0,1,7,8] (lp (sr [ob 9 pL 8 7] 0 [0,1,7,8,9] (sw (cx 9 0) (sw (b1 (sr [mv 10 8,mv 5 10] 0 [0,1,5,7,8] (sr [mv 11 1,mv 12 0,mv 13 5,ix 14 2 12 13,lw 15 2 14,ob 16 .dQ 11 15] 0 [0,1,5,7,8,16] (cd 16 (sr [mv 17 5,mv 4 17] 0 [4] .ret) .skip)))) (rg [oi 18 pA 8 1,mv 8 18] 0 [0,1,7,8])))))) (sr [mi 4 (-1)] 0 [4] .ret)))
def oQ:aA:=(sr [mf 2 false] 0 [0] (sr [mv 3 0,mv 4 0,ob 5 pQ 3 4,mv 2 5] 0 [2] .ret))
def dB:aA:=(s0 [ba 3 0 1,mi 4 0] 1 [0,3] [3] (sw (sr [mv 6 0,oa 7 .len 6,mi 8 0] 0 [0,3,7,8] (lp (sr [ob 9 pL 8 7] 0 [0,3,7,8,9] (sw (cx 9 0) (sw (b1 (sr [mv 10 8,mv 5 10] 0 [0,3,5,7,8] (sw (r1 [ou 11 (.load true 2) 3 1,mv 12 0,mv 13 5,ob1 14 (.bH 2) 12 13 1,ou 15 (.load true 2) 14 1,ob 16 (.CZ false [1,1]) 11 15] 0 [0,3,5,7,8,16] []) (cd 16 (sr [mv 17 5,mv 4 17] 0 [4] .ret) .skip)))) (rg [oi 18 pA 8 1,mv 8 18] 0 [0,3,7,8])))))) (sr [mi 4 (-1)] 0 [4] .ret)))
def dA:aA:=(sr [ag 2 2] 0 [0] (sw (sr [mv 3 0,oc 4 (.isNil false) 3 cS] 0 [0,4] (cd 4 (sr [ag 2 2] 0 [2] .ret) .skip)) (sr [on 5 (.dU 2 [] []) [],mv 6 0,ob 7 (.app 2 false) 5 6,mv 2 7] 0 [2] .ret)))
def fP:aA:=(sr [ag 2 4] 0 [0] (sw (sr [mv 3 0,oc 4 (.isNil false) 3 cS] 0 [0,4] (cd 4 (sr [ag 2 4] 0 [2] .ret) .skip)) (sr [on 5 (.dU 4 [] []) [],mv 6 0,ob 7 (.app 4 false) 5 6,mv 2 7] 0 [2] .ret)))
def lC:aA:=(sr [mf 4 false] 0 [0,1] (sr [mv 5 0,oa 6 .Gi 5,mv 7 1,oa 8 .Gi 7,ob 9 (.bin .geq) 6 8,mv 10 9,ov 11 .mov 0 10 0,ov 12 .mov 0 10 0,ov 13 .Gi 12 10 0,ov 14 .mov 1 10 0,ov 15 .Gi 14 10 0,obT 16 pU 13 15 10 0,obT 17 (.Ns true false) 11 16 10 0,ov 18 .mov 1 10 0,obT 19 pE 17 18 10 0,pf 20 10 19,mv 4 20] 0 [4] .ret))
def AP:aA:=(lp (sw (sr [lo 5 1,oa 6 .Gi 5,oi 7 pG 6 0] 0 [0,1,7] (cx 7 0)) (b1 (sr [mk 3 (.c ze)] 0 [0,1] (sw (sr [lo 8 1,oc 9 (.aj 152) 8 (.c (.int .u8 10)),mv 4 9] 0 [0,1,4] (sr [mv 10 4,oi 11 (.bin .geq) 10 0] 0 [0,1,4,11] (cd 11 (r1 [ou 12 ld 1 2,mv 13 4,oi 14 pA 13 1,ob1 15 (.Ns false true) 12 14 1,ou 16 ld 1 2,mv 17 4,oi 18 pA 17 1,ob1 19 (.Ns true false) 16 18 1,mv 3 15,sk 1 1 19 0] 0 [0,1,3] []) (rg [lo 20 1,mv 3 20,os (.store 1) [.t 1,.c ze] 0] 0 [0,1,3])))) (sr [mv 21 0,mv 22 3,ob 23 .dQ 21 22,oa 24 pN 23] 0 [0,1,24] (cd 24 .ret .skip)))))))
def qh:aA:=(sr [mk 4 (.c ze)] 0 [0,1] (sw (sr [mv 5 0,mv 6 1,ob 7 (.aj 150) 5 6] 0 [0,1,7] (cd 7 (sr [mv 8 0,mv 9 0,oa 10 .Gi 9,mv 11 1,oa 12 .Gi 11,ob 13 pU 10 12,ob 14 (.Ns false true) 8 13,mv 4 14] 0 [4] .ret) .skip)) (sr [mv 15 0,mv 4 15] 0 [4] .ret)))
def eF:aA:=(sr [mi 4 0] 0 [0,1] (sw (sr [mv 6 0,oa 7 .len 6,mi 8 0] 0 [0,1,7,8] (lp (sr [ob 9 pL 8 7] 0 [0,1,7,8,9] (sw (cx 9 0) (sw (b1 (sr [mv 10 8,mv 5 10] 0 [0,1,5,7,8] (sr [mv 11 1,mv 12 0,mv 13 5,ix 14 4 12 13,lw 15 4 14,ob 16 .dQ 11 15] 0 [0,1,5,7,8,16] (cd 16 (sr [mv 17 5,mv 4 17] 0 [4] .ret) .skip)))) (rg [oi 18 pA 8 1,mv 8 18] 0 [0,1,7,8])))))) (sr [mi 4 (-1)] 0 [4] .ret)))
def PD:aA:=(sr [mk 4 (.c (.int .u64 0)),mk 5 (.c (.int .u64 0))] 0 [0,1] (sw (.cond (.c (.bool false)) (sr [mv 11 0,oa 12 (.conv .u32) 11,mv 13 1,oa 14 (.conv .u32) 13,ob 15 (.aj 247) 12 14,mv 10 15,xa 16 0 10,xa 17 1 10,mv 6 16,mv 7 17] 0 [6,7] (sr [mv 18 6,oa 19 (.conv .u64) 18,mv 20 7,oa 21 (.conv .u64) 20,mv 4 19,mv 5 21] 0 [4,5] .ret)) .skip) (sr [mv 23 0,mv 24 1,ob 25 (.aj 248) 23 24,mv 22 25,xa 26 0 22,xa 27 1 22,mv 8 26,mv 9 27] 0 [8,9] (sr [mv 28 8,mv 29 9,mv 4 28,mv 5 29] 0 [4,5] .ret))))
def kH:aA:=(sr [mi 4 0] 0 [0,1] (sw (sr [mv 6 0,oa 7 .len 6,mi 8 0] 0 [0,1,7,8] (lp (sr [ob 9 pL 8 7] 0 [0,1,7,8,9] (sw (cx 9 0) (sw (b1 (sr [mv 10 8,mv 5 10] 0 [0,1,5,7,8] (sr [mv 11 1,mv 12 0,mv 13 5,ix 14 9 12 13,lw 15 9 14,ob 16 .dQ 11 15] 0 [0,1,5,7,8,16] (cd 16 (sr [mv 17 5,mv 4 17] 0 [4] .ret) .skip)))) (rg [oi 18 pA 8 1,mv 8 18] 0 [0,1,7,8])))))) (sr [mi 4 (-1)] 0 [4] .ret)))
def iU:aA:=(sr [ag 2 1] 0 [0] (sw (sr [mv 3 0,oc 4 (.isNil false) 3 cS] 0 [0,4] (cd 4 (sr [ag 2 1] 0 [2] .ret) .skip)) (sr [on 5 (.dU 1 [] []) [],mv 6 0,ob 7 (.app 1 false) 5 6,mv 2 7] 0 [2] .ret)))
def tq:aA:=(sr [mi 4 0] 0 [0,1] (sw (sr [mv 6 0,oa 7 .len 6,mi 8 0] 0 [0,1,7,8] (lp (sr [ob 9 pL 8 7] 0 [0,1,7,8,9] (sw (cx 9 0) (sw (b1 (sr [mv 10 8,mv 5 10] 0 [0,1,5,7,8] (sr [mv 11 1,mv 12 0,mv 13 5,ix 14 1 12 13,lo 15 14,ob 16 .dQ 11 15] 0 [0,1,5,7,8,16] (cd 16 (sr [mv 17 5,mv 4 17] 0 [4] .ret) .skip)))) (rg [oi 18 pA 8 1,mv 8 18] 0 [0,1,7,8])))))) (sr [mi 4 (-1)] 0 [4] .ret)))
def yZ:aA:=(sr [mi 4 0] 0 [0,1] (sw (sr [mv 6 0,oa 7 .len 6,mi 8 0] 0 [0,1,7,8] (lp (sr [ob 9 pL 8 7] 0 [0,1,7,8,9] (sw (cx 9 0) (sw (b1 (sr [mv 10 8,mv 5 10] 0 [0,1,5,7,8] (sr [mv 11 1,mv 12 0,mv 13 5,ix 14 1 12 13,lo 15 14,ob 16 pE 11 15] 0 [0,1,5,7,8,16] (cd 16 (sr [mv 17 5,mv 4 17] 0 [4] .ret) .skip)))) (rg [oi 18 pA 8 1,mv 8 18] 0 [0,1,7,8])))))) (sr [mi 4 (-1)] 0 [4] .ret)))
def lY:aA:=(sr [mi 6 0,mf 7 false] 0 [0,1,2] (sr [mv 12 0,oa 13 .len 12,mv 8 13] 0 [0,1,2,8] (sr [mv 14 8,mi 9 0,mv 10 14] 0 [0,1,2,8,9,10] (sw (lp (sw (sr [mv 15 9,mv 16 10,ob 17 pL 15 16] 0 [0,1,2,8,9,10,17] (cx 17 0)) (b1 (sr [mv 18 9,mv 19 10,ob 20 pA 18 19,oa 21 (.conv .u64) 20,oc 22 (.shf .shr) 21 (.c (.int .u64 1)),oa 23 (.conv .i64) 22,mv 11 23] 0 [0,1,2,8,9,10,11] (sr [mv 24 2,mv 25 0,mv 26 11,ix 27 1 25 26,lo 28 27,mv 29 1,on 30 .dQ [.t 24,.t 28,.t 29],oi 31 pL 30 0] 0 [0,1,2,8,9,10,11,31] (cd 31 (rg [mv 32 11,oi 33 pA 32 1,mv 9 33] 0 [0,1,2,8,9,10]) (rg [mv 34 11,mv 10 34] 0 [0,1,2,8,9,10]))))))) (sr [mv 35 9,mv 36 9,mv 37 8,ob 38 pL 36 37,mv 39 38,ov 40 .mov 2 39 0,ov 41 .mov 0 39 0,ov 42 .mov 9 39 0,obT 43 (.bH 1) 41 42 39 0,ov 44 ld 43 39 0,ov 45 .mov 1 39 0,ot 46 .dQ [.t 40,.t 44,.t 45] 39 0,ot 47 pE [.t 46,kI 0] 39 0,pf 48 39 47,mv 6 35,mv 7 48] 0 [6,7] .ret)))))
def jK:aA:=(s0 [ba 3 0 1,mf 4 false] 1 [0,3] [3] (sr [mv 5 0,lw 6 2 3,ob 7 (.aj 257) 5 6,oi 8 (.bin .geq) 7 0,mv 4 8] 0 [4] .ret))
def iY:aA:=(sr [mf 4 false] 0 [0,1] (sr [mv 5 0,mv 6 1,ob 7 (.aj 271) 5 6,oi 8 (.bin .geq) 7 0,mv 4 8] 0 [4] .ret))
def ni:aA:=(sr [ag 2 3] 0 [0] (sw (sr [mv 3 0,oc 4 (.isNil false) 3 cS] 0 [0,4] (cd 4 (sr [ag 2 3] 0 [2] .ret) .skip)) (sr [on 5 (.dU 3 [] []) [],mv 6 0,ob 7 (.app 3 true) 5 6,mv 2 7] 0 [2] .ret)))
def kF:aA:=(sr [ag 2 2] 0 [0] (sw (sr [mv 3 0,oc 4 (.isNil false) 3 cS] 0 [0,4] (cd 4 (sr [ag 2 2] 0 [2] .ret) .skip)) (sr [on 5 (.dU 2 [] []) [],mv 6 0,ob 7 (.app 2 true) 5 6,mv 2 7] 0 [2] .ret)))
def Jv:aA:=(sr [mk 4 (.c (.int .u64 0)),mk 5 (.c (.int .u64 0))] 0 [0,1] (sr [mv 14 0,oc 15 (.bin .and) 14 (.c (.int .u64 4294967295)),mv 6 15] 0 [0,1,6] (sr [mv 16 0,oc 17 (.shf .shr) 16 (.c (.int .u64 32)),mv 7 17] 0 [0,1,6,7] (sr [mv 18 1,oc 19 (.bin .and) 18 (.c (.int .u64 4294967295)),mv 8 19] 0 [0,1,6,7,8] (sr [mv 20 1,oc 21 (.shf .shr) 20 (.c (.int .u64 32)),mv 9 21] 0 [0,1,6,7,8,9] (sr [mv 22 6,mv 23 8,ob 24 pM 22 23,mv 10 24] 0 [0,1,6,7,8,9,10] (sr [mv 25 7,mv 26 8,ob 27 pM 25 26,mv 28 10,oc 29 (.shf .shr) 28 (.c (.int .u64 32)),ob 30 pA 27 29,mv 11 30] 0 [0,1,6,7,9,11] (sr [mv 31 11,oc 32 (.bin .and) 31 (.c (.int .u64 4294967295)),mv 12 32] 0 [0,1,6,7,9,11,12] (sr [mv 33 11,oc 34 (.shf .shr) 33 (.c (.int .u64 32)),mv 13 34] 0 [0,1,6,7,9,12,13] (sr [mv 35 12,mv 36 6,mv 37 9,ob 38 pM 36 37,ob 39 pA 35 38,mv 12 39] 0 [0,1,7,9,12,13] (sr [mv 40 7,mv 41 9,ob 42 pM 40 41,mv 43 13,ob 44 pA 42 43,mv 45 12,oc 46 (.shf .shr) 45 (.c (.int .u64 32)),ob 47 pA 44 46,mv 4 47] 0 [0,1,4] (sr [mv 48 0,mv 49 1,ob 50 pM 48 49,mv 5 50] 0 [4,5] .ret))))))))))))
def lI:aA:=(s0 [ba 3 0 1,mi 4 0] 1 [0,3] [3] (sw (sr [mv 6 0,oa 7 .len 6,mi 8 0] 0 [0,3,7,8] (lp (sr [ob 9 pL 8 7] 0 [0,3,7,8,9] (sw (cx 9 0) (sw (b1 (sr [mv 10 8,mv 5 10] 0 [0,3,5,7,8] (sw (r1 [ou 11 (.load true 2) 3 1,mv 12 0,mv 13 5,ob1 14 (.bH 2) 12 13 1,ou 15 (.load true 2) 14 1,ob 16 (.CZ false [2,1]) 11 15] 0 [0,3,5,7,8,16] []) (cd 16 (sr [mv 17 5,mv 4 17] 0 [4] .ret) .skip)))) (rg [oi 18 pA 8 1,mv 8 18] 0 [0,3,7,8])))))) (sr [mi 4 (-1)] 0 [4] .ret)))
def kY:aA:=(sr [mk 2 cS] 0 [0] (sr [mv 4 0,oa 5 (.call 330) 4,mv 3 5] 0 [3] (sr [mv 6 3,oa 7 (.call 331) 6] 0 [3] (sr [mv 8 3,mv 2 8] 0 [2] .ret))))
def xQ:aA:=(s0 [ba 1 0 0,mk 2 (.c (.nilFunc))] 1 [1] [1] (sr [oa 3 (.mkF (.func 332) 0) 1,mv 2 3] 0 [2] .ret))
def jH:aA:=(sr [mf 4 false] 0 [0,1] (sr [mv 5 0,mv 6 1,ob 7 (.aj 345) 5 6,oi 8 (.bin .geq) 7 0,mv 4 8] 0 [4] .ret))
def vU:aA:=(sr [mk 2 cS] 0 [0] (sr [mv 3 0,on 4 (.call 356) [cS,.t 3],mv 2 4] 0 [2] .ret))
def uK:aA:=(sr [lo 5 1,oa 6 .len 5,mi 7 0] 0 [0,5,6,7] (lp (sr [ob 8 pL 7 6] 0 [0,5,6,7,8] (sw (cx 8 0) (sw (b1 (sr [ix 9 1 5 7,lo 10 9,mv 4 10] 0 [0,4,5,6,7] (sr [mv 11 0,mv 12 4,ob 13 .dQ 11 12,oa 14 pN 13] 0 [0,5,6,7,14] (cd 14 .ret .skip)))) (rg [oi 15 pA 7 1,mv 7 15] 0 [0,5,6,7]))))))
def sZ:aA:=(sr [ba 2 0 0,mk 4 cS] 1 [1,2,4] (sw (sr [mv 6 1] 0 [2,4,6] (.block 0 (.nD (.t 6) [7] [2] (rg [mv 5 7] 0 [2,5]) (b1 (rg [lo 8 2,mv 9 5,oa 10 (.dU 1 [z0] [0]) 9,ob 11 (.app 1 true) 8 10,sk 1 2 11 0] 0 []))))) (sr [lo 12 2,mv 4 12] 0 [4] .ret)))
def oD:aA:=(sr [mi 4 0,mf 5 false] 0 [0,1] (sr [mv 10 0,oa 11 .len 10,mv 6 11] 0 [0,1,6] (sr [mv 12 6,mi 7 0,mv 8 12] 0 [0,1,6,7,8] (sw (lp (sw (sr [mv 13 7,mv 14 8,ob 15 pL 13 14] 0 [0,1,6,7,8,15] (cx 15 0)) (b1 (sr [mv 16 7,mv 17 8,ob 18 pA 16 17,oa 19 (.conv .u64) 18,oc 20 (.shf .shr) 19 (.c (.int .u64 1)),oa 21 (.conv .i64) 20,mv 9 21] 0 [0,1,6,7,8,9] (sr [mv 22 0,mv 23 9,ix 24 1 22 23,lo 25 24,mv 26 1,ob 27 (.aj 379) 25 26] 0 [0,1,6,7,8,9,27] (cd 27 (rg [mv 28 9,oi 29 pA 28 1,mv 7 29] 0 [0,1,6,7,8]) (rg [mv 30 9,mv 8 30] 0 [0,1,6,7,8]))))))) (sr [mv 31 7,mv 32 7,mv 33 6,ob 34 pL 32 33,mv 35 34,ov 36 .mov 0 35 0,ov 37 .mov 7 35 0,obT 38 (.bH 1) 36 37 35 0,ov 39 ld 38 35 0,ov 40 .mov 1 35 0,obT 41 pE 39 40 35 0,ov 42 .mov 41 35 0,ow 43 .mov 0 42 0,ow 44 .mov 7 42 0,obF 45 (.bH 1) 43 44 42 0,lq 46 45 42,ow 47 (.aj 382) 46 42 0,ow 48 .mov 47 42 0,ov 49 .mov 1 48 0,ov 50 (.aj 382) 49 48 0,oF 51 .pick [.t 48,.t 50,.c (.bool false)] 42 0,ot 52 .pick [.t 42,.c (.bool true),.t 51] 35 0,pf 53 35 52,mv 4 31,mv 5 53] 0 [4,5] .ret)))))
def FK:aA:=(sr [mf 4 false] 0 [0,1] (sr [mv 5 0,oa 6 (.aj 141) 5,mv 7 6,ov 8 .mov 1 7 0,ov 9 (.aj 141) 8 7 0,ov 10 pN 9 7 0,pf 11 7 10,mv 12 11,ow 13 .mov 0 12 0,ow 14 .mov 1 12 0,obF 15 pL 13 14 12 0,pt 16 12 15,mv 4 16] 0 [4] .ret))
def xO:aA:=(sr [ag 2 1] 0 [0] (sw (sr [mv 3 0,oc 4 (.isNil false) 3 cS] 0 [0,4] (cd 4 (sr [ag 2 1] 0 [2] .ret) .skip)) (sr [on 5 (.dU 1 [] []) [],mv 6 0,ob 7 (.app 1 true) 5 6,mv 2 7] 0 [2] .ret)))
end Go.Tel
namespace Go.Am
def dD {cs:List PV}:VX none cs= .agg cs:=rfl
def dV {cs:List PV}:acR none cs= .tup cs:=rfl
def dH {nb na:Nat}{env:List (Nat×PV)}{m:Mem}{α:Type}{len i:Nat}{E:Nat->α->St}{P:Nat->α->Prop}(b:α)(hi:i<len)(hs:(⟨env,m⟩:St)=E (i+1) b)(d:P (i+1) b):
  ∃c a,c<len - i/\Weak nb na ⟨env,m⟩ a/\upJ len E P c a:=⟨len - (i+1),_,by omega, .inl rfl,i+1,b,by omega,rfl,hs,d⟩
end Go.Am
namespace Go.Tel
open Go.Am
structure Pr where
 a:Int
 b:Int
 deriving DecidableEq,Inhabited
structure Fr where
 n:Int
 d:Int
 deriving DecidableEq,Inhabited
structure Lk where
 fr:Int
 pr:Pr
 deriving DecidableEq,Inhabited
structure Pc where
 links:List Lk
 hands:List Int
 deriving DecidableEq,Inhabited
structure Fs where
 mv:Bool
 mo:Int
 da:Int
 af:Int
 deriving DecidableEq,Inhabited
structure Cal where
 ep:Int
 cy:List Int
 deriving DecidableEq,Inhabited
structure jV where
 n:Int
 d:Int
 ad:Int
 deriving DecidableEq,Inhabited
structure Dt where
 y:Int
 m:Int
 d:Int
 deriving DecidableEq,Inhabited
def Pr.dv (p:Pr):DV:= .agg [dI p.a,dI p.b]
def Fr.dv (p:Fr):DV:= .agg [dI p.n,dI p.d]
def Lk.dv (p:Lk):DV:= .agg [dI p.fr,dI p.pr.a,dI p.pr.b]
def Pc.dv (p:Pc):DV:= .agg [sF (p.links.map Lk.dv),sF (p.hands.map ay)]
def Fs.dv (f:Fs):DV:= .agg [.bool f.mv,dI f.mo,dI f.da,dI f.af]
def Cal.dv (c:Cal):DV:= .agg [dI c.ep,sF (c.cy.map ay)]
def jV.dv (m:jV):DV:= .agg [dI m.n,dI m.d,dI m.ad]
def Dt.dv (d:Dt):DV:= .agg [dI d.y,dI d.m,dI d.d]
def dW {p:Pr}:p.dv= .agg [dI p.a,dI p.b]:=by rw[Pr.dv]
def aS {p:Fr}:p.dv= .agg [dI p.n,dI p.d]:=by rw[Fr.dv]
def Fz {p:Lk}:p.dv= .agg [dI p.fr,dI p.pr.a,dI p.pr.b]:=by rw[Lk.dv]
def lU {p:Pc}:p.dv= .agg [sF (p.links.map Lk.dv),sF (p.hands.map ay)]:=by rw[Pc.dv]
def ade {f:Fs}:f.dv= .agg [.bool f.mv,dI f.mo,dI f.da,dI f.af]:=by rw[Fs.dv]
def nU {c:Cal}:c.dv= .agg [dI c.ep,sF (c.cy.map ay)]:=by rw[Cal.dv]
def rG {m:jV}:m.dv= .agg [dI m.n,dI m.d,dI m.ad]:=by rw[jV.dv]
def Bz {d:Dt}:d.dv= .agg [dI d.y,dI d.m,dI d.d]:=by rw[Dt.dv]
section
variable {C:Ctx}{base:Nat}{K:PV->Mem->Prop}{KP:DV->Mem->Prop}{bs:List (Option (List PV))}{fz:List Nat}{ar:List (Option Arr)}
variable{k ver skip sz st:Nat}
def ac9 {xs:List DV}(h:ar[k]?=some (some ⟨sz,xs,ver,st⟩)):datum ⟨bs,fz,ar⟩ (.tsl k ver skip)=some (sF (xs.drop skip)):=by
 simp[datum,Mem.row,h]
def KZ {f:FuncId}{xs:List DV}{x:DV}(h:ar[k]?=some (some ⟨sz,xs,ver,st⟩))(b:Pure C f [sF (xs.drop skip)] (.d x) [])(hx:yw x=true)(a:K (.d x) ⟨bs,fz,ar⟩):
  au C base (.gG f) [.tsl k ver skip] ⟨bs,fz,ar⟩ K KP:=by
 rw[ae7];exact⟨[sF (xs.drop skip)],by simp[bV,ac9 h],x,by simpa[DV.strip]using b,hx,a⟩
end
variable{i:Nat}
def bf {α:Type}[Inhabited α]{l:List α}(h:i<l.length):l.take (i+1)=l.take i++ [l.getD i default]:=by
 rw[List.take_add_one];congr 1;rw[ae,ab h];rfl
variable{base:Nat}{M:Mem}{K:PV->Mem->Prop}{KP:DV->Mem->Prop}{k:IntKind}
def rV {C:Ctx}{sz:Nat}{xs:List DV}{n:Int}(hs:∀x∈xs,x.cells.length=sz)(a:0<=n)(h1:n<=xs.length):
  au C base (.Jh sz false true false) [.d (.slice false xs), .d (.int k n)] M K KP=K (.d (sF (xs.take n.toNat))) M:=by
 simp only[au,zu,dY,Option.getD_none,Option.getD_some,true_and,cp,a,h1,Int.toNat_zero,b9,Bool.false_or,b6];simp;intro c x b;exact hs x b
def ais {ls:List Lk}:∀x∈ls.map Lk.dv,x.cells.length=3:=by intro x a;obtain⟨l,_,rfl⟩:=bj.1 a;rfl
def fits_int {n:Int}:DV.fits 1 (.int k n)=true:=rfl
variable{a b:Int}
def Qq:DV.fits 2 (.agg [dI a,dI b])=true:=rfl
def idx {α:Type}[DecidableEq α](v:α):List α->Nat->Int
 | [],_=> -1
 |x::xs,i=>if v=x then i else idx v xs (i+1)
def RS {α:Type}[DecidableEq α](v:α):∀(xs:List α) (i:Nat),decide (idx v xs i>=0)=xs.contains v
 | [],i=>by simp[idx]
 |x::xs,i=>by
  simp only[idx,List.contains_cons]
  by_cases h:v=x
  ·simp[h]
  ·simp only[h,if_false,RS v xs (i+1)]
   simp[h]
def iD {C:Ctx}{neq:Bool}{c d:Int}:au C base (.CZ neq [1,1]) [.d (.agg [dI a,dI b]), .d (.agg [dI c,dI d])] M K KP=K (.d (.bool (((a==c)&&(b==d)) !=neq))) M:=by
 rw[WA (t:=(a==c)&&(b==d))];simp[bW]
def KW {b:Bool}:(b !=false)=b:=by cases b<;>rfl
def jq {α:Type}(p:α->Bool):List α->Nat->Int
 | [],_=> -1
 |x::xs,i=>if p x then i else jq p xs (i+1)
def BH {α:Type}(p:α->Bool):∀(xs:List α) (i:Nat),decide (jq p xs i>=0)=xs.any p
 | [],i=>by simp[jq]
 |x::xs,i=>by
  simp only[jq,cf]
  by_cases h:p x=true
  ·simp[h]
  ·have a:p x=false:=by simpa using h
   have:=BH p xs (i+1)
   simpa[a]using this
def Ef {α:Type}(p:α->Bool):∀l:List α,(l.any fun w=> !p w)= !l.all p
 | []=>rfl
 |x::l=>by simp only[cf,ce,Ef p l,Bool.not_and]
variable{f:FuncId}
def ig {C:Ctx}{fs cs ds ds':List DV}{args:List PV}{x:DV}(h1:gV args=some ds)(hc:callable C.P f=true)(h2:(fs++ds++cs).map DV.strip=ds')(e:Pure C f ds' (.d x) [])(a:K (.d x) M):
  au C base .dQ (.d (.func (.func f) fs cs)::args) M K KP:=by
 refine⟨hc,wX (Nk ⟨fs++ds++cs,?_,x,h2▸e,a⟩)⟩;have b:args=ds.map .d:=IB h1;have hd:∀l:List DV,gV (l.map .d)=some l:=by
  intro l;induction l with
  |nil=>rfl
  |cons c l g=>simp[gV,g]
 rw[b,<-aD,<-aD,hd]
def getD_mem {α:Type}[Inhabited α]{l:List α}(h:i<l.length):l.getD i default∈l:=by
 rw[ae,ab h];exact a7 h
def Ja (n:Int)(g:Int):(n.tdiv g).natAbs<=n.natAbs:=by
 rw[Int.natAbs_tdiv];exact bc _ _
def Y2 (xs:List Int)(fn:FuncId)(b:List DV)(p:Int->Bool)(hl:xs.length<=1000000)(hc:callable C.P fn=true)(g:∀x∈xs,Pure C fn ([(ay x).strip]++b.map DV.strip) (.d (.bool (p x))) []):
  Pure C 193 [sF (xs.map ay), .func (.func fn) [] b] (pI (jq p xs 0)) []:=by
 refine ah tq aH ?_;simp only[tq,aH,Z,RN,B,J];refine aG xs.length (fun i (_:Unit)=>⟨[(0, .d (sF (xs.map ay))),(1, .d (.func (.func fn) [] b)),(7,pI xs.length),(8,pI i)],⟨[],[],[]⟩⟩)
  (fun i _=>jq p xs 0=jq p (xs.drop i) i) 0 () (bi _) rfl rfl (fun i _ h1 a=> ?_) (fun _ a=> ?_)
 ·obtain⟨h2,e,f⟩:=rng h1 hl
  rw[drop_cons h1,jq]at a;have j:=g (xs.getD i default) (by rw[ae,ab h1];exact a7 h1);simp only[h2,e,h1,getD_map,am,Z,aW,RN,B,V];refine ig rfl hc (by simp only[aL,aD,an,aq,aW]) j ?_;cases c:p (xs.getD i default)
  ·simp only[f,RN,B]
   exact dh () h1 rfl (by rw[if_neg (fun h=>by rw[c]at h;cases h)]at a;exact a) (by simp) (by simp) rfl rfl
  ·(try simp only[RN,B])
   rw[a,if_pos c]
 ·rw[aw,jq]at a
  simp only[aM,a,RN,B]
def lQ (xs:List Int)(fn:FuncId)(a:List DV)(p:Int->Bool)(hl:xs.length<=1000000)(hc:callable C.P fn=true)(b:∀x∈xs,Pure C fn ([(ay x).strip]++a.map DV.strip) (.d (.bool (p x))) []):
  Pure C 127 [sF (xs.map ay), .func (.func fn) [] a] (.d (.bool (xs.any p))) []:=by
 have hi:=Y2 xs fn a p hl hc b;refine ah oG aH ?_;simp only[oG,aH,RN,B,J];refine ak hi ?_;simp only[BH,RN]
def abQ (xs:List Pr)(fn:FuncId)(b:List DV)(p:Pr->Bool)(hl:xs.length<=1000000)(hc:callable C.P fn=true)(g:∀x∈xs,Pure C fn ([(Pr.dv x).strip]++b.map DV.strip) (.d (.bool (p x))) []):
  Pure C 140 [sF (xs.map Pr.dv), .func (.func fn) [] b] (pI (jq p xs 0)) []:=by
 refine ah bU aH ?_;simp only[bU,aH,Z,RN,B,J];refine aG xs.length (fun i (_:Unit)=>⟨[(0, .d (sF (xs.map Pr.dv))),(1, .d (.func (.func fn) [] b)),(7,pI xs.length),(8,pI i)],⟨[],[],[]⟩⟩)
  (fun i _=>jq p xs 0=jq p (xs.drop i) i) 0 () (bi _) rfl rfl (fun i _ h1 a=> ?_) (fun _ a=> ?_)
 ·obtain⟨h2,e,f⟩:=rng h1 hl
  rw[drop_cons h1,jq]at a;have j:=g (xs.getD i default) (by rw[ae,ab h1];exact a7 h1);simp only[h2,e,h1,getD_map,am,Z,dW,RN,B,J,V];refine ig rfl hc (by simp only[aL,aD,an,aq,dW]) j ?_;cases c:p (xs.getD i default)
  ·simp only[f,RN,B]
   exact dh () h1 rfl (by rw[if_neg (fun h=>by rw[c]at h;cases h)]at a;exact a) (by simp) (by simp) rfl rfl
  ·(try simp only[RN,B])
   rw[a,if_pos c]
 ·rw[aw,jq]at a
  simp only[aM,a,RN,B]
def Jl (xs:List Pr)(fn:FuncId)(a:List DV)(p:Pr->Bool)(hl:xs.length<=1000000)(hc:callable C.P fn=true)(b:∀x∈xs,Pure C fn ([(Pr.dv x).strip]++a.map DV.strip) (.d (.bool (p x))) []):
  Pure C 71 [sF (xs.map Pr.dv), .func (.func fn) [] a] (.d (.bool (xs.any p))) []:=by
 have hi:=abQ xs fn a p hl hc b;refine ah jJ aH ?_;simp only[jJ,aH,RN,B,J];refine ak hi ?_;simp only[BH,RN]
def abO (xs:List Fr)(fn:FuncId)(b:List DV)(p:Fr->Bool)(hl:xs.length<=1000000)(hc:callable C.P fn=true)(g:∀x∈xs,Pure C fn ([(Fr.dv x).strip]++b.map DV.strip) (.d (.bool (p x))) []):
  Pure C 271 [sF (xs.map Fr.dv), .func (.func fn) [] b] (pI (jq p xs 0)) []:=by
 refine ah bU aH ?_;simp only[bU,aH,Z,RN,B,J];refine aG xs.length (fun i (_:Unit)=>⟨[(0, .d (sF (xs.map Fr.dv))),(1, .d (.func (.func fn) [] b)),(7,pI xs.length),(8,pI i)],⟨[],[],[]⟩⟩)
  (fun i _=>jq p xs 0=jq p (xs.drop i) i) 0 () (bi _) rfl rfl (fun i _ h1 a=> ?_) (fun _ a=> ?_)
 ·obtain⟨h2,e,f⟩:=rng h1 hl
  rw[drop_cons h1,jq]at a;have j:=g (xs.getD i default) (by rw[ae,ab h1];exact a7 h1);simp only[h2,e,h1,getD_map,am,Z,aS,RN,B,J,V];refine ig rfl hc (by simp only[aL,aD,an,aq,aS]) j ?_;cases c:p (xs.getD i default)
  ·simp only[f,RN,B]
   exact dh () h1 rfl (by rw[if_neg (fun h=>by rw[c]at h;cases h)]at a;exact a) (by simp) (by simp) rfl rfl
  ·(try simp only[RN,B])
   rw[a,if_pos c]
 ·rw[aw,jq]at a
  simp only[aM,a,RN,B]
def Ui (xs:List Fr)(fn:FuncId)(a:List DV)(p:Fr->Bool)(hl:xs.length<=1000000)(hc:callable C.P fn=true)(b:∀x∈xs,Pure C fn ([(Fr.dv x).strip]++a.map DV.strip) (.d (.bool (p x))) []):
  Pure C 211 [sF (xs.map Fr.dv), .func (.func fn) [] a] (.d (.bool (xs.any p))) []:=by
 have hi:=abO xs fn a p hl hc b;refine ah iY aH ?_;simp only[iY,aH,RN,B,J];refine ak hi ?_;simp only[BH,RN]
def abP (xs:List Fs)(fn:FuncId)(b:List DV)(p:Fs->Bool)(hl:xs.length<=1000000)(hc:callable C.P fn=true)(g:∀x∈xs,Pure C fn ([(Fs.dv x).strip]++b.map DV.strip) (.d (.bool (p x))) []):
  Pure C 345 [sF (xs.map Fs.dv), .func (.func fn) [] b] (pI (jq p xs 0)) []:=by
 refine ah eF aH ?_;simp only[eF,aH,Z,RN,B,J];refine aG xs.length (fun i (_:Unit)=>⟨[(0, .d (sF (xs.map Fs.dv))),(1, .d (.func (.func fn) [] b)),(7,pI xs.length),(8,pI i)],⟨[],[],[]⟩⟩)
  (fun i _=>jq p xs 0=jq p (xs.drop i) i) 0 () (bi _) rfl rfl (fun i _ h1 a=> ?_) (fun _ a=> ?_)
 ·obtain⟨h2,e,f⟩:=rng h1 hl
  rw[drop_cons h1,jq]at a;have j:=g (xs.getD i default) (by rw[ae,ab h1];exact a7 h1);simp only[h2,e,h1,getD_map,am,Z,ade,RN,B,J,V];refine ig rfl hc (by simp only[aL,aD,an,aq,ade]) j ?_;cases c:p (xs.getD i default)
  ·simp only[f,RN,B]
   exact dh () h1 rfl (by rw[if_neg (fun h=>by rw[c]at h;cases h)]at a;exact a) (by simp) (by simp) rfl rfl
  ·(try simp only[RN,B])
   rw[a,if_pos c]
 ·rw[aw,jq]at a
  simp only[aM,a,RN,B]
def Uj (xs:List Fs)(fn:FuncId)(a:List DV)(p:Fs->Bool)(hl:xs.length<=1000000)(hc:callable C.P fn=true)(b:∀x∈xs,Pure C fn ([(Fs.dv x).strip]++a.map DV.strip) (.d (.bool (p x))) []):
  Pure C 310 [sF (xs.map Fs.dv), .func (.func fn) [] a] (.d (.bool (xs.any p))) []:=by
 have hi:=abP xs fn a p hl hc b;refine ah jH aH ?_;simp only[jH,aH,RN,B,J];refine ak hi ?_;simp only[BH,RN]
def RV (xs:List Int)(v:Int)(hl:xs.length<=1000000):Pure C 196 [sF (xs.map ay),dI v] (pI (idx v xs 0)) []:=by
 refine ah yZ aH ?_;simp only[yZ,aH,Z,RN,B,J];refine aG xs.length (fun i (_:Unit)=>⟨[(0, .d (sF (xs.map ay))),(1,pI v),(7,pI xs.length),(8,pI i)],⟨[],[],[]⟩⟩) (fun i _=>idx v xs 0=idx v (xs.drop i) i) 0 () (bi _) rfl rfl (fun i _ h1 a=> ?_) (fun _ a=> ?_)
 ·obtain⟨h2,c,e⟩:=rng h1 hl
  rw[drop_cons h1,idx]at a;cases b:(v==xs.getD i default)
  ·simp only[h2,c,h1,e,b,aW,getD_map,am,Z,RN,B,V]
   exact dh () h1 rfl (by rw[if_neg (by simpa using b)]at a;exact a) (by simp) (by simp) rfl rfl
  ·simp only[h2,c,h1,b,aW,getD_map,am,Z,RN,B,V]
   rw[a,if_pos (by simpa using b)]
 ·rw[aw,idx]at a
  simp only[aM,a,RN,B]
def qH (xs:List Int)(v:Int)(hl:xs.length<=1000000):Pure C 131 [sF (xs.map ay),dI v] (.d (.bool (xs.contains v))) []:=by
 have hi:=RV xs v hl;refine ah uJ aH ?_;simp only[uJ,aH,RN,B,J];refine ak hi ?_;simp only[RS,RN]
def H7:aA:=(sr [al 2 0 [z0,z0],mf 3 false,mi 4 0] 1 [0,2] (sw (sr [mv 5 0,oa 6 (.aj 45) 5,oa 7 pN 6] 0 [0,2,7] (cd 7 (sr [on 8 (.build [z0,z0] []) [],sk 2 2 8 0,mf 3 false,mi 4 2] 0 [2,3,4] .ret) .skip)) (sr [mv 9 0,oa 10 (.aj 46) 9,mv 11 0,oa 12 .len 11,oi 13 (.bin .rem) 12 2,oi 14 pE 13 0,sk 2 2 10 0,mv 3 14,mi 4 0] 0 [2,3,4] .ret)))
def DR:aA:=(s0 [ba 2 0 0,ba 3 1 1,mk 4 cS,mi 5 0] 2 [2,3] [2,3] (sw (sr [lw 8 5 2,oa 9 (.aj 63) 8,oa 10 pN 9,mv 11 10,ow 12 (.load true 2) 3 11 0,ow 13 (.aj 64) 12 11 0,ow 14 pN 13 11 0,pt 15 11 14] 0 [2,3,15] (cd 15 (sr [mk 4 cS,mi 5 2] 0 [4,5] .ret) .skip)) (sw (r1 [ou 17 (.load true 5) 2 1,oa 18 (.aj 66) 17,oa 19 (.aj 65) 18,ou 20 (.load true 2) 3 1,ob 21 (.aj 67) 19 20,mv 16 21,xa 22 0 16,xa 23 1 16,mv 6 22,mv 7 23] 0 [6,7] []) (sw (sr [mv 24 7,oa 25 pN 24] 0 [6,25] (cd 25 (sr [mk 4 cS,mi 5 5] 0 [4,5] .ret) .skip)) (sr [mv 26 6,mv 4 26,mi 5 0] 0 [4,5] .ret)))))
def JH:aA:=(s0 [ba 2 0 0,mf 4 false,mi 5 0] 1 [1,2] [2] (sw (sr [lw 7 5 2,oa 8 (.aj 63) 7,oa 9 pN 8,mv 10 9,ow 11 .mov 1 10 0,ow 12 (.aj 45) 11 10 0,ow 13 pN 12 10 0,pt 14 10 13] 0 [1,2,14] (cd 14 (sr [mf 4 false,mi 5 2] 0 [4,5] .ret) .skip)) (s0 [lw 15 5 2,oa 16 (.aj 66) 15,al 6 0 [z0,z0,z0,z0,zs,zs],sk 6 6 16 0] 1 [1,2,6] [6] (sr [mv 17 1,oa 18 .len 17,fa 19 2 2,lo 20 19,ob 21 (.bin .leq) 18 20,mv 22 21,ov 23 (.load true 6) 6 22 0,ov 24 .mov 1 22 0,ov 25 .len 24 22 0,obT 26 (.aj 68) 23 25 22 0,pf 27 22 26,mv 28 27,ov 29 .mov 1 28 0,ot 30 (.aj 69) [.t 29,.c (.func (.func 70) [] [])] 28 0,pf 31 28 30,mv 32 31,ov 33 .mov 1 32 0,ov 34 (.mkF (.func 72) 0) 6 32 0,obT 35 (.aj 71) 33 34 32 0,ov 36 pN 35 32 0,pf 37 32 36,mv 4 37,mi 5 0] 0 [4,5] .ret))))
def F6:aA:=(s0 [ba 3 0 0,mi 6 0,mi 7 0] 1 [1,2,3] [3] (sw (sr [lw 8 2 3,oa 9 (.aj 64) 8,oa 10 pN 9,mv 11 10,ow 12 .mov 1 11 0,ow 13 (.aj 45) 12 11 0,ow 14 pN 13 11 0,pt 15 11 14,mv 16 15,ow 17 .mov 2 16 0,ow 18 (.aj 45) 17 16 0,ow 19 pN 18 16 0,pt 20 16 19] 0 [1,2,3,20] (cd 20 (sr [mi 6 0,mi 7 2] 0 [6,7] .ret) .skip)) (sw (r1 [mv 21 1,oa 22 (.aj 46) 21,ou 23 (.load true 2) 3 1,ob 24 (.aj 77) 22 23,mv 25 2,oa 26 (.aj 46) 25,ou 27 (.load true 2) 3 1,ob 28 (.aj 77) 26 27,ob 29 (.aj 76) 24 28,oi 30 (.aj 75) 29 0,mv 6 30,mi 7 0] 0 [6,7] []) .ret)))
def DX:aA:=(sr [mf 2 false] 0 [0] (sr [mv 3 0,oa 4 .len 3,on 5 (.aj 108) [.t 4,kI 1,kI 3],mv 6 5,ov 7 .mov 0 6 0,ot 8 (.aj 71) [.t 7,.c (.func (.func 109) [] [])] 6 0,ov 9 pN 8 6 0,pf 10 6 9,mv 2 10] 0 [2] .ret))
def H9:aA:=(sr [al 2 0 [z0,z0]] 1 [0,2] (sr [ag 3 1,ag 4 1] 0 [0,2,3,4] (sw (sr [mv 7 0,oa 8 .len 7,mi 9 0] 0 [2,3,4,7,8,9] (lp (sr [ob 10 pL 9 8] 0 [2,3,4,7,8,9,10] (sw (cx 10 0) (sw (b1 (s0 [ix 11 2 7 9,lw 12 2 11,al 6 0 [z0,z0],sk 2 6 12 0] 1 [2,3,4,6,7,8,9] [6] (r1 [mv 13 3,fu 14 0 6 1,lv 15 14,ou 16 (.dU 1 [z0] [0]) 15 1,ob 17 (.app 1 false) 13 16,mv 18 4,fu 19 1 6 1,lv 20 19,ou 21 (.dU 1 [z0] [0]) 20 1,ob 22 (.app 1 false) 18 21,mv 3 17,mv 4 22] 0 [2,3,4,7,8,9] []))) (rg [oi 23 pA 9 1,mv 9 23] 0 [2,3,4,7,8,9])))))) (sr [mv 24 3,oa 25 (.gG 112) 24,mv 26 4,oa 27 (.gG 112) 26,ob 28 (.aj 111) 25 27,sk 2 2 28 0] 0 [2] .ret))))
def H6:aA:=(s0 [ba 1 0 0,mi 2 0] 1 [1] [1] (sw (sr [lw 3 5 1,oa 4 (.aj 63) 3,oa 5 pN 4] 0 [5] (cd 5 (sr [mi 2 2] 0 [2] .ret) .skip)) (sr [mi 2 0] 0 [2] .ret)))
def F7:aA:=(s0 [ba 1 0 0,mf 2 false] 1 [1] [1] (sr [fa 3 0 1,lo 4 3,oa 5 (.aj 110) 4,mv 6 5,ov 7 (.fld 1) 1 6 0,ov 8 ld 7 6 0,ov 9 (.aj 110) 8 6 0,pf 10 6 9,mv 11 10,ov 12 (.fld 0) 1 11 0,ov 13 ld 12 11 0,ov 14 (.fld 1) 1 11 0,ov 15 ld 14 11 0,obT 16 (.bin .leq) 13 15 11 0,pf 17 11 16,mv 18 17,ov 19 (.fld 2) 1 18 0,ov 20 ld 19 18 0,ot 21 (.aj 108) [.t 20,kI 1,kI 3] 18 0,pf 22 18 21,mv 23 22,ov 24 (.fld 3) 1 23 0,ov 25 ld 24 23 0,ot 26 pU [.t 25,kI 1] 23 0,ot 27 (.aj 108) [.t 26,kI 0,kI 2] 23 0,pf 28 23 27,mv 29 28,ov 30 (.fld 4) 1 29 0,ov 31 ld 30 29 0,ov 32 .len 31 29 0,ot 33 (.bin .leq) [.t 32,kI 6] 29 0,pf 34 29 33,mv 35 34,ov 36 (.fld 4) 1 35 0,ov 37 ld 36 35 0,ot 38 (.aj 127) [.t 37,.c (.func (.func 128) [] [])] 35 0,ov 39 pN 38 35 0,pf 40 35 39,mv 2 40] 0 [2] .ret))
def y9:aA:=(s0 [ba 1 0 0,mf 2 false] 1 [1] [1] (sr [fa 3 0 1,lo 4 3,on 5 (.aj 108) [.t 4,kI 0,kI 50000],mv 6 5,ov 7 (.fld 1) 1 6 0,ov 8 ld 7 6 0,ot 9 (.aj 108) [.t 8,kI 1,kI 50000] 6 0,pf 10 6 9,mv 2 10] 0 [2] .ret))
def DU:aA:=(s0 [ba 2 0 0,ba 3 1 1,mi 4 0] 2 [2,3] [2,3] (sw (r1 [fu 5 0 2 1,lv 6 5,fu 7 0 3 1,lv 8 7,ob 9 (.aj 75) 6 8,fu 10 1 2 1,lv 11 10,fu 12 1 3 1,lv 13 12,ob 14 (.aj 75) 11 13,ob1 15 (.dU 1 [z0,z0] [0,1]) 9 14 1,oa 16 (.aj 139) 15,mv 4 16] 0 [4] []) .ret))
def F5:aA:=(s0 [ba 2 0 0,mf 3 false] 1 [1,2] [2] (sr [lw 4 6 1,fa 5 0 2,lo 6 5,ob 7 (.aj 73) 4 6,oa 8 pN 7,mv 9 8,ow 10 (.load true 6) 1 9 0,ow 11 (.fld 1) 2 9 0,lq 12 11 9,obF 13 (.aj 73) 10 12 9 0,ow 14 pN 13 9 0,pt 15 9 14,mv 3 15] 0 [3] .ret))
def DT:aA:=(s0 [ba 2 0 0,ba 3 1 1,mi 4 0] 2 [2,3] [2,3] (sr [fa 5 0 2,lo 6 5,fa 7 1 3,lo 8 7,ob 9 pM 6 8,fa 10 0 3,lo 11 10,fa 12 1 2,lo 13 12,ob 14 pM 11 13,ob 15 pU 9 14,mv 4 15] 0 [4] .ret))
def Cb:aA:=(s0 [ba 2 0 0,ba 3 1 1,al 4 2 [z0,z0]] 3 [2,3,4] [2,3] (sr [lw 6 2 2,lw 7 2 3,ob 8 (.aj 76) 6 7,mv 5 8] 0 [2,4,5] (sr [mv 9 5,mv 10 5,oa 11 (.un .neg) 10,ob 12 (.qo true) 9 11,fa 13 1 2,lo 14 13,ob 15 (.build [z0,z0] [(0,1),(1,1)]) 12 14,sk 2 4 15 0] 0 [4] .ret)))
def PS:aA:=(sr [mf 6 false] 0 [0,1,2] (sr [mv 7 0,mv 8 1,ob 9 (.bin .geq) 7 8,mv 10 9,ov 11 .mov 0 10 0,ov 12 .mov 2 10 0,obT 13 (.bin .leq) 11 12 10 0,pf 14 10 13,mv 6 14] 0 [6] .ret))
def AQ:aA:=(s0 [ba 1 0 0,mf 2 false] 1 [1] [1] (sr [fa 3 0 1,lo 4 3,oa 5 (.aj 110) 4,oa 6 pN 5,mv 7 6,ow 8 (.fld 1) 1 7 0,lq 9 8 7,ow 10 (.aj 110) 9 7 0,ow 11 pN 10 7 0,pt 12 7 11,mv 2 12] 0 [2] .ret))
def DW:aA:=(sr [mf 2 false] 0 [0] (sr [mv 3 0,on 4 (.aj 108) [.t 3,kI 4,kI 60],mv 2 4] 0 [2] .ret))
def DY:aA:=(sr [al 4 0 [z0,z0]] 1 [0,1,4] (sr [mv 6 0,mv 7 1,ob 8 (.aj 171) 6 7,mv 5 8] 0 [0,1,4,5] (sw (r1 [mv 9 0,mv 10 5,ob 11 (.bin .quo) 9 10,mv 12 1,mv 13 5,ob 14 (.bin .quo) 12 13,ob 15 (.build [z0,z0] [(0,1),(1,1)]) 11 14,sk 2 4 15 0] 0 [4] []) .ret)))
def oW:aA:=(sr [mi 2 0] 0 [0] (sr [mi 3 1] 0 [0,3] (sw (sr [mv 6 0,oa 7 .len 6,mi 8 0] 0 [3,6,7,8] (lp (sr [ob 9 pL 8 7] 0 [3,6,7,8,9] (sw (cx 9 0) (sw (b1 (sr [ix 10 1 6 8,lo 11 10,mv 5 11] 0 [3,5,6,7,8] (rg [mv 12 3,mv 13 5,ob 14 pM 12 13,mv 3 14] 0 [3,6,7,8]))) (rg [oi 15 pA 8 1,mv 8 15] 0 [3,6,7,8])))))) (sr [mv 16 3,mv 2 16] 0 [2] .ret))))
def Ce:aA:=(sr [mf 2 false] 0 [0] (sr [mv 3 0,oa 4 (.aj 110) 3,oa 5 pN 4,mv 2 5] 0 [2] .ret))
def MW:aA:=(sr [mi 4 0] 0 [0,1] (sw (lp (sw (sr [mv 5 1,oi 6 pG 5 0] 0 [0,1,6] (cx 6 0)) (b1 (r1 [mv 7 1,mv 8 0,mv 9 1,ob 10 (.bin .rem) 8 9,mv 0 7,mv 1 10] 0 [0,1] [])))) (sr [mv 11 0,mv 4 11] 0 [4] .ret)))
def MV:aA:=(s0 [ba 4 0 1,mi 6 0,mi 7 0] 1 [0,2,4] [4] (sw (sr [mv 9 0,oa 10 (.aj 45) 9,oa 11 pN 10,mv 12 11,ow 13 (.load true 2) 4 12 0,ow 14 (.aj 64) 13 12 0,ow 15 pN 14 12 0,pt 16 12 15,mv 17 16,ow 18 .mov 2 17 0,ow 19 (.aj 358) 18 17 0,ow 20 pN 19 17 0,pt 21 17 20] 0 [0,2,4,21] (cd 21 (sr [mi 6 0,mi 7 2] 0 [6,7] .ret) .skip)) (s0 [mv 22 0,lw 23 2 4,ob 24 (.aj 359) 22 23,al 8 0 [z0,z0],sk 2 8 24 0] 1 [2,8] [8] (sr [fa 25 0 8,lo 26 25,mv 27 2,ob 28 pM 26 27,fa 29 1 8,lo 30 29,ob 31 (.bin .quo) 28 30,mv 6 31,mi 7 0] 0 [6,7] .ret))))
def F8:aA:=(sr [mf 2 false] 0 [0] (sr [mv 3 0,on 4 (.aj 108) [.t 3,kI 0,kI 10000],mv 2 4] 0 [2] .ret))
def DZ:aA:=(s0 [ba 3 0 1,al 4 1 [z0,z0]] 2 [0,3,4] [3] (s0 [mv 6 0,oa 7 (.aj 46) 6,al 5 0 [z0,z0],sk 2 5 7 0] 1 [3,4,5] [5] (sw (r1 [ou 8 (.load true 2) 5 1,ou 9 (.load true 2) 3 1,ob 10 (.aj 76) 8 9,oi 11 pM 10 21600,fu 12 1 5 1,lv 13 12,fu 14 1 3 1,lv 15 14,ob 16 pM 13 15,ob 17 (.build [z0,z0] [(0,1),(1,1)]) 11 16,sk 2 4 17 0] 0 [4] []) .ret)))
def aT (n:Int):Bool:=inR n 4 60
def Pr.ok (p:Pr):Bool:=aT p.a&&aT p.b
def Fr.ok (f:Fr):Bool:=inR f.n 0 50000&&inR f.d 1 50000
def fF (l:List Pr):Bool:=inR l.length 1 3&&l.all Pr.ok
def lJ (n d:Nat):Fr:=⟨(n / av n d:Nat),(d / av n d:Nat)⟩
def bZ:List Int->Int->Int
 | [],p=>p
 |x::xs,p=>bZ xs (p*x)
def gu (l:List Pr):Fr:=lJ (bZ (l.map (·.a)) 1).natAbs (bZ (l.map (·.b)) 1).natAbs
def fC (a b:Fr):Int:=a.n*b.d - b.n*a.d
def nI (l:List Pr)(f:Fr):Fr:=⟨fC (gu l) f*21600,(gu l).d*f.d⟩
def apP (l:List Pr)(f:Fr)(turns:Int):Int:=((nI l f).n*turns).tdiv (nI l f).d
def afN (l:List Pr)(f:Fr)(turns:Int):Int×Int:=if fF l&&f.ok&&inR turns 0 10000 then(apP l f turns,0)else(0,2)
def CW (n l h:Int)(hc:Dc C.P f 3 PS jv=true:=by kernel_rfl):Pure C f [dI n,dI l,dI h] (.d (.bool (inR n l h))) []:=by
 refine JJ mixed rfl hc ?_
 by_cases h1:n>=l<;>simp only[h1,inR,PS,jv,b6,RN,B,J]
def VP (n l h:Int):Pure C 108 [dI n,dI l,dI h] (.d (.bool (inR n l h))) []:=CW n l h
def Uc (n:Int):Pure C 110 [dI n] (.d (.bool (aT n))) []:=by
 refine ah DW aI ?_;simp only[DW,aI,RN,B]
 repeat' first
  |(refine ak (VP _ _ _) ?_;try simp only[RN,B,J,N,S,U,V])
  |(refine aJ (by rfl) (fun a=> ?_) (fun a=> ?_)<;>simp only[a,RN,B,J,N,S,U,V])
  |(refine aK (by rfl) (fun a=> ?_) (fun a=> ?_)<;>simp only[a,RN,B,J,N,S,U,V])
 all_goals(first|(simp only[aT, *,BSN];done)|(simp_all[aT];done)|(simp_all[aT];omega))
def ami (n:Int):Pure C 358 [dI n] (.d (.bool (inR n 0 10000))) []:=by
 refine ah F8 aI ?_;simp only[F8,aI,RN,B]
 repeat' first
  |(refine ak (VP _ _ _) ?_;try simp only[])
  |(refine aJ (by rfl) (fun a=> ?_) (fun a=> ?_)<;>simp only[a,RN,B,J,N,S,U,V])
  |(refine aK (by rfl) (fun a=> ?_) (fun a=> ?_)<;>simp only[a,RN,B,J,N,S,U,V])
 all_goals(first|(simp only[inR, *,BSN];done)|(simp_all[inR];done)|(simp_all[inR];omega))
def XP (f:Fr):Pure C 64 [f.dv] (.d (.bool f.ok)) []:=by
 refine ah y9 aI ?_;simp only[y9,aI,aS,RN,B,J,V]
 repeat' first
  |(refine ak (VP _ _ _) ?_;try simp only[aS,RN,B,J,N,S,U,V])
  |(refine aJ (by rfl) (fun a=> ?_) (fun a=> ?_)<;>simp only[a,RN,B,J,V])
  |(refine aK (by rfl) (fun a=> ?_) (fun a=> ?_)<;>simp only[a,aS,RN,B,J,N,S,U,V])
 all_goals(first|(simp only[Fr.ok, *,BSN];done)|(simp_all[Fr.ok];done)|(simp_all[Fr.ok];omega))
def Zb (p:Pr):Pure C 109 [p.dv] (.d (.bool (!p.ok))) []:=by
 refine ah AQ aI ?_;simp only[AQ,aI,dW,RN,B,J,V]
 repeat' first
  |(refine ak (Uc _) ?_;try simp only[RN])
  |(refine aJ (by rfl) (fun a=> ?_) (fun a=> ?_)<;>simp only[a,RN,B,J,V])
  |(refine aK (by rfl) (fun a=> ?_) (fun a=> ?_)<;>simp only[a,dW,RN,B,J,N,S,U,V])
 all_goals(first|(simp only[Pr.ok, *,BSN];done)|(simp_all[Pr.ok];done)|(simp_all[Pr.ok];omega))
def Dq (l:List Pr)(hl:l.length<=1000000):Pure C 45 [sF (l.map Pr.dv)] (.d (.bool (fF l))) []:=by
 refine ah DX aI ?_;simp only[DX,aI,Z,RN,B]
 repeat' first
  |(refine ak (VP _ _ _) ?_;try simp only[Z,RN,B,J,N,S,U,V])
  |(refine cO rfl rfl (Jl l _ [] (fun p=> !p.ok) hl (by kernel_rfl) (fun p _=>Zb p)) ?_;try simp only[RN])
  |(refine aJ (by rfl) (fun a=> ?_) (fun a=> ?_)<;>simp only[a,RN,B])
  |(refine aK (by rfl) (fun a=> ?_) (fun a=> ?_)<;>simp only[a,Z,RN,B,J,N,S,U,V])
 all_goals(first|(rw[Ef])|skip)
 all_goals(first|(simp only[fF, *,BSN];done)|(simp_all[fF];done)|(simp_all[fF];omega))
def aoF (a b:Nat):Pure C 171 [dI a,dI b] (pI (av a b)) []:=by
 refine ah MW aH ?_;simp only[MW,aH,RN,B,J];refine kN (fun(q:Nat×Nat)=>⟨[(0,pI q.1),(1,pI q.2)],⟨[],[],[]⟩⟩) (fun q=>av q.1 q.2=av a b) (fun q=>q.2) (a,b) rfl rfl (fun q e=> ?_)
 by_cases g:q.2=0
 ·have c:¬((q.2:Int)>0):=by omega
  simp only[c,RN,B];rw[<-e,g,Nat.gcd_zero_right]
 ·have c:((q.2:Int)>0):=by omega
  have d:((q.2:Int)≠0):=by omega
  have f:(q.1:Int).tmod (q.2:Int)=((q.1 % q.2:Nat):Int):=(Int.ofNat_tmod q.1 q.2).symm;simp only[c,d,f,RN,B];exact XT (q.2,q.1 % q.2) (Nat.mod_lt _ (by omega)) rfl (by simp only;rw[ck,<-Nat.gcd_rec,ck];exact e) (by simp) (by simp) rfl rfl
def adp {n:Nat}(h:n<=9223372036854775807):cr .i64 (n:Int)=n:=aF (by omega)
def Ov (a b:Nat)(j:a<=4611686018427387904)(hb:b<=4611686018427387904)(h:0<b):Pure C 111 [dI a,dI b] (.d (lJ a b).dv) []:=by
 refine ah DY JQ ?_;have i:((av a b:Nat):Int)≠0:=by
  have:0<av a b:=bt _ h;omega
 have c:(a:Int).tdiv (av a b:Nat)=((a / av a b:Nat):Int):=(b7 a _).symm;have e:(b:Int).tdiv (av a b:Nat)=((b / av a b:Nat):Int):=(b7 b _).symm;have f:cr .i64 ((a:Int).tdiv (av a b:Nat))=((a / av a b:Nat):Int):=by
  rw[c];exact adp (bo (bc _ _) (by omega))
 have g:cr .i64 ((b:Int).tdiv (av a b:Nat))=((b / av a b:Nat):Int):=by
  rw[e];exact adp (bo (bc _ _) (by omega))
 simp only[DY,JQ,RN,B,J,V];refine ak (aoF a b) ?_;simp only[i,f,g,aS,lJ,RN,B,J,V]
def MX:∀(l:List Int) (p:Int) (k:Nat),(∀x∈l,1<=x/\x<=60)->1<=p->p<=60 ^ k->1<=bZ l p/\bZ l p<=60 ^ (k+l.length)
 | [],p,k,_,h1,h2=>⟨h1,h2⟩
 |x::l,p,k,h,h1,h2=>by
  obtain⟨a,b⟩:=h x (by simp);have d:1<=p*x:=by
   have:=ao h1 a (by omega) (by omega);omega
  have e:p*x<=60 ^ (k+1):=by
   rw[Int.pow_succ];exact ao h2 b (by omega) (bL (by omega) h2)
  obtain⟨r1,r2⟩:=MX l (p*x) (k+1) (fun y c=>h y (by simp[c])) d e;refine⟨r1,?_⟩;rw[bX,show k+(l.length+1)=k+1+l.length by omega];exact r2
def KD:∀(l:List Int) (p:Int),(∀x∈l,1<=x)->1<=p->p<=bZ l p
 | [],p,_,_=>cp p
 |x::l,p,h,b=>by
  have c:p*1<=p*x:=Int.mul_le_mul_of_nonneg_left (h x (by simp)) (by omega);have:=KD l (p*x) (fun y a=>h y (by simp[a])) (by omega);simp only[bZ];omega
def Ou (l:List Int)(hl:l.length<=1000000)(hx:∀x∈l,1<=x)(hb:bZ l 1<=9223372036854775807):Pure C 112 [sF (l.map ay)] (pI (bZ l 1)) []:=by
 refine ah oW aI ?_;simp only[oW,aI,Z,RN,B];refine aG l.length (fun i (p:Int)=>⟨[(3,pI p),(6, .d (sF (l.map ay))),(7,pI l.length),(8,pI i)],⟨[],[],[]⟩⟩)
  (fun i p=>1<=p/\bZ l 1=bZ (l.drop i) p) 0 1 (bi _) rfl ⟨by omega,rfl⟩ (fun i p h1 a=> ?_) (fun p a=> ?_)
 ·obtain⟨h2,g,h⟩:=rng h1 hl
  obtain⟨c,a⟩:=a;rw[drop_cons h1,bZ]at a;have b:=hx _ (getD_mem h1);have e:1<=p*l.getD i default:=by
   have:=ao c b (by omega) (by omega);omega
  have k:=KD (l.drop (i+1)) (p*l.getD i default) (fun y j=>hx y (List.mem_of_mem_drop j)) e;have f:cr .i64 (p*l.getD i default)=p*l.getD i default:=aF (by omega);simp only[h2,g,h1,h,aW,getD_map,am,Z,f,RN,B,V];exact dh (p*l.getD i default) h1 rfl ⟨e,a⟩ (by simp) (by simp) rfl rfl
 ·obtain⟨c,a⟩:=a
  rw[aw,bZ]at a;simp only[aM,a,RN,B]
variable{l:List Pr}
def lD (h:fF l=true):1<=l.length/\l.length<=3/\∀p∈l,(4<=p.a/\p.a<=60)/\4<=p.b/\p.b<=60:=by
 simp only[fF,inR,Y,decide_eq_true_eq,bS,ge_iff_le,Pr.ok,aT]at h;exact⟨by omega,by omega,h.2⟩
def aan (hl:l.length<=3)(h:∀p∈l,(4<=p.a/\p.a<=60)/\4<=p.b/\p.b<=60):(1<=bZ (l.map (·.a)) 1/\bZ (l.map (·.a)) 1<=216000)/\1<=bZ (l.map (·.b)) 1/\bZ (l.map (·.b)) 1<=216000:=by
 have e:∀k:Nat,k<=3->(60:Int) ^ k<=216000:=by
  intro k f
  match k,f with
  |0,_=>decide
  |1,_=>decide
  |2,_=>decide
  |3,_=>decide
 constructor
 ·obtain⟨a,b⟩:=MX (l.map (·.a)) 1 0 (fun x d=>by obtain⟨p,c,rfl⟩:=bj.1 d;have:=h p c;omega) (by omega) (by decide)
  exact⟨a,bL b (e _ (by simpa using hl))⟩
 ·obtain⟨a,b⟩:=MX (l.map (·.b)) 1 0 (fun x d=>by obtain⟨p,c,rfl⟩:=bj.1 d;have:=h p c;omega) (by omega) (by decide)
  exact⟨a,bL b (e _ (by simpa using hl))⟩
def ET (a b:Nat)(h:0<b):(0<=(lJ a b).n/\(lJ a b).n<=a)/\1<=(lJ a b).d/\(lJ a b).d<=b:=by
 have h1:=bc a (av a b);have h2:=bc b (av a b);have c:0<b / av a b:=Nat.div_pos (Nat.le_of_dvd h (Nat.gcd_dvd_right a b)) (bt _ h);exact⟨⟨Int.natCast_nonneg _,bN.2 h1⟩,bN.2 c,bN.2 h2⟩
def Jc (hl:l.length<=3)(h:∀p∈l,(4<=p.a/\p.a<=60)/\4<=p.b/\p.b<=60):(0<=(gu l).n/\(gu l).n<=216000)/\1<=(gu l).d/\(gu l).d<=216000:=by
 obtain⟨⟨c,e⟩,b1,b2⟩:=aan hl h;have:=ET (bZ (l.map (·.a)) 1).natAbs (bZ (l.map (·.b)) 1).natAbs (by omega);simp only[gu];omega
def QE (l:List Pr)(hl:l.length<=3)(h:∀p∈l,(4<=p.a/\p.a<=60)/\4<=p.b/\p.b<=60):Pure C 46 [sF (l.map Pr.dv)] (.d (gu l).dv) []:=by
 obtain⟨⟨t,u⟩,b1,b2⟩:=aan hl h;have j:=Ou (l.map (·.a)) (by simp;omega) (fun x m=>by obtain⟨p,g,rfl⟩:=bj.1 m;have:=h p g;omega) (by omega);have k:=Ou (l.map (·.b)) (by simp;omega) (fun x m=>by obtain⟨p,g,rfl⟩:=bj.1 m;have:=h p g;omega) (by omega);obtain⟨na,e⟩:∃n:Nat,bZ (l.map (·.a)) 1=n:=⟨(bZ (l.map (·.a)) 1).toNat,by omega⟩
 obtain⟨nb,f⟩:∃n:Nat,bZ (l.map (·.b)) 1=n:=⟨(bZ (l.map (·.b)) 1).toNat,by omega⟩
 refine ah H9 amQ ?_;simp only[H9,amQ,Z,RN,B,U];refine aG l.length (fun i (v:Nat)=>⟨[(2, .ptr 0 0),(3, .tsl 0 v 0),(4, .tsl 1 v 0),(7, .d (sF (l.map Pr.dv))),(8,pI l.length),(9,pI i)],
   ⟨[some [pI 0,pI 0]],[],[some ⟨1,((l.take i).map (·.a)).map ay,v,0⟩,some ⟨1,((l.take i).map (·.b)).map ay,v,0⟩]⟩⟩)
  (fun i v=>True) 0 0 (bi _) rfl trivial (fun i v h1 _=> ?_) (fun v _=> ?_)
 ·obtain⟨h2,r,s⟩:=rng h1 (by omega)
  have c:(l.take i).length<=1073741823:=by simp;omega
  simp only[h2,r,h1,s,dW,getD_map,am,Z,gB,fits_int,forall_eq,DV.strip,fU,RN,B,J,S,U,V];refine⟨by simp,c,by simp,c,?_⟩;refine bQ 1 2 (v+1) h1 ?_ trivial (by simp) (by simp) rfl rfl;rw[bf h1];simp[ay]
 ·rw[b4]
  simp only[aM,RN,B];refine KZ rfl j rfl ?_;refine KZ rfl k rfl ?_;simp only[e,f];refine cO rfl rfl (Ov na nb (by omega) (by omega) (by omega)) ?_;have o:(bZ (l.map (·.a)) 1).natAbs=na:=by omega
  have q:(bZ (l.map (·.b)) 1).natAbs=nb:=by omega
  simp only[gu,o,q,aS,RN,J,V]
def NQ {a b:Fr}(h1:0<=a.n/\a.n<=216000)(h2:1<=a.d/\a.d<=216000)(c:b.ok=true):(0<=b.n/\b.n<=50000)/\(1<=b.d/\b.d<=50000)/\(0<=a.n*b.d/\a.n*b.d<=10800000000)/\0<=b.n*a.d/\b.n*a.d<=10800000000:=by
 simp only[Fr.ok,inR,Y,decide_eq_true_eq,ge_iff_le]at c;obtain⟨⟨e,f⟩,l,g⟩:=c;have h:=ao h1.2 g (by omega) (by omega);have i:=bB h1.1 (show 0<=b.d by omega);have j:=ao f h2.2 (by omega) (by omega);have k:=bB e (show 0<=a.d by omega);omega
def zA (a b:Fr)(h1:0<=a.n*b.d/\a.n*b.d<=4000000000000000000)(h2:0<=b.n*a.d/\b.n*a.d<=4000000000000000000):Pure C 76 [a.dv,b.dv] (pI (fC a b)) []:=by
 have c:cr .i64 (a.n*b.d)=a.n*b.d:=aF (by omega);have e:cr .i64 (b.n*a.d)=b.n*a.d:=aF (by omega);have f:cr .i64 (a.n*b.d - b.n*a.d)=a.n*b.d - b.n*a.d:=aF (by omega);refine ah DT aH ?_;simp only[DT,aH,aS,c,e,f,fC,RN,B,J,V]
def agv (l:List Pr)(f:Fr)(hl:l.length<=3)(h:∀p∈l,(4<=p.a/\p.a<=60)/\4<=p.b/\p.b<=60)(hf:f.ok=true):Pure C 359 [sF (l.map Pr.dv),f.dv] (.d (nI l f).dv) []:=by
 obtain⟨t1,t2⟩:=Jc hl h;obtain⟨q,j,k,m⟩:=NQ t1 t2 hf;have e:=QE l hl h;have c:=zA (gu l) f (by omega) (by omega);have g:cr .i64 (fC (gu l) f*21600)=fC (gu l) f*21600:=aF (by simp only[fC];omega);have n:=ao t2.2 j.2 (by omega) (by omega);have o:=bB (show 0<=(gu l).d by omega) (show 0<=f.d by omega);have i:cr .i64 ((gu l).d*f.d)=(gu l).d*f.d:=aF (by omega);refine ah DZ JQ ?_;simp only[aS]at e c⊢;simp only[DZ,JQ,RN,B,J];refine ak e ?_;(try simp only[RN,B,J,S,V]);refine ak c ?_;simp only[g,i,nI,RN,B,J,S,V]
def agw {f:Fr}(hl:l.length<=3)(h:∀p∈l,(4<=p.a/\p.a<=60)/\4<=p.b/\p.b<=60)(hf:f.ok=true):((nI l f).n.natAbs<=233280000000000)/\1<=(nI l f).d/\(nI l f).d<=10800000000:=by
 obtain⟨t1,t2⟩:=Jc hl h;obtain⟨k,c,e,g⟩:=NQ t1 t2 hf;have i:=ao t2.2 c.2 (by omega) (by omega);have j:=ao t2.1 c.1 (by omega) (by omega);simp only[nI,fC];omega
def aoO (l:List Pr)(f:Fr)(turns:Int)(hl:l.length<=1000000):Pure C 337 [sF (l.map Pr.dv),f.dv,dI turns] (.d (.tup [dI (afN l f turns).1,dI (afN l f turns).2])) []:=by
 refine ah MV P6 ?_;have b:=XP f;simp only[aS]at b⊢;simp only[MV,P6,RN,B,J]
 repeat' first
  |(refine ak (Dq l hl) ?_;try simp only[RN])
  |(refine ak (b) ?_;try simp only[RN])
  |(refine ak (ami turns) ?_;try simp only[RN])
  |(refine aJ (by rfl) (fun a=> ?_) (fun a=> ?_)<;>simp only[a,RN,B,J,V])
  |(refine aK (by rfl) (fun a=> ?_) (fun a=> ?_)<;>simp only[a,RN,B,J,V])
 any_goals (simp_all[afN];done)
 have h1:fF l=true:=by simp_all
 have h2:f.ok=true:=by simp_all
 have c:inR turns 0 10000=true:=by simp_all
 obtain⟨_,g,h⟩:=lD h1;obtain⟨w1,m⟩:=agw g h h2;have e:=agv l f g h h2;simp only[aS]at e;have b1:((nI l f).n*turns).natAbs<=2332800000000000000:=by
  rw[Int.natAbs_mul];have:turns.natAbs<=10000:=by simp only[inR,Y,decide_eq_true_eq]at c;omega
  exact Nat.mul_le_mul w1 this
 have i:cr .i64 ((nI l f).n*turns)=(nI l f).n*turns:=aF (by omega);have b2:=Ja ((nI l f).n*turns) (nI l f).d;have j:cr .i64 (((nI l f).n*turns).tdiv (nI l f).d)=((nI l f).n*turns).tdiv (nI l f).d:=aF (by omega);have k:(nI l f).d≠0:=by omega
 refine ak e ?_;simp only[i,j,k,RN,B,J,S,V];simp only[afN,h1,h2,c,Bool.and_self,if_true,apP]
def KT (l:List Pr):Fr×Bool×Int:=if fF l then(gu l,(l.length:Int).tmod 2==0,0)else(⟨0,0⟩,false,2)
def ake (l:List Pr)(hl:l.length<=1000000):Pure C 17 [sF (l.map Pr.dv)] (.d (.tup [(KT l).1.dv, .bool (KT l).2.1,dI (KT l).2.2])) []:=by
 refine ah H7 amP ?_;simp only[H7,amP,RN,B];refine ak (Dq l hl) ?_;cases h1:fF l
 ·(try simp only[RN,B,J,V])
  simp[KT,h1,aS]
 ·obtain⟨_,b,c⟩:=lD h1
  have a:=QE l b c;simp only[aS]at a;(try simp only[RN,B]);refine ak a ?_;simp only[Z,RN,J,V];simp[KT,h1,aS]
def JD:aA:=(s0 [ba 1 0 0,mi 2 0] 1 [1] [1] (sw (sr [lw 3 2 1,oa 4 (.aj 258) 3,oa 5 pN 4] 0 [5] (cd 5 (sr [mi 2 2] 0 [2] .ret) .skip)) (sr [mi 2 0] 0 [2] .ret)))
def MQ:aA:=(s0 [ba 1 0 0,mi 2 0,mi 3 0,mi 4 0] 1 [1] [1] (sw (sr [fa 10 0 1,lo 11 10,oa 12 (.aj 267) 11,oa 13 pN 12,mv 14 13,ow 15 (.fld 1) 1 14 0,lq 16 15 14,oF 17 (.aj 268) [.t 16,kI 0,kI 1000] 14 0,ow 18 pN 17 14 0,pt 19 14 18,mv 20 19,ow 21 (.fld 2) 1 20 0,lq 22 21 20,oF 23 (.aj 268) [.t 22,kI 0,kI 40] 20 0,ow 24 pN 23 20 0,pt 25 20 24,mv 26 25,ow 27 (.fld 3) 1 26 0,lq 28 27 26,oF 29 (.aj 268) [.t 28,kI 0,kI 100] 26 0,ow 30 pN 29 26 0,pt 31 26 30,mv 32 31,ow 33 (.fld 4) 1 32 0,lq 34 33 32,oF 35 (.aj 268) [.t 34,kI 0,kI 100] 32 0,ow 36 pN 35 32 0,pt 37 32 36,mv 38 37,ow 39 (.fld 5) 1 38 0,lq 40 39 38,oF 41 (.aj 268) [.t 40,kI 0,kI 1000000] 38 0,ow 42 pN 41 38 0,pt 43 38 42] 0 [1,43] (cd 43 (sr [mi 2 0,mi 3 0,mi 4 2] 0 [2,3,4] .ret) .skip)) (sr [ag 5 1] 0 [1,5] (sw (sr [fa 44 0 1,lo 45 44,oa 46 .len 45,mi 47 0] 0 [1,5,45,46,47] (lp (sr [ob 48 pL 47 46] 0 [1,5,45,46,47,48] (sw (cx 48 0) (sw (b1 (sr [ix 49 1 45 47,lo 50 49,mv 7 50] 0 [1,5,7,45,46,47] (rg [mv 51 5,mv 52 7,mv 53 7,ob 54 pM 52 53,oa 55 (.dU 1 [z0] [0]) 54,ob 56 (.app 1 false) 51 55,mv 5 56] 0 [1,5,45,46,47]))) (rg [oi 57 pA 47 1,mv 47 57] 0 [1,5,45,46,47])))))) (sw (r1 [mv 58 5,oa 59 (.gG 270) 58,fu 60 1 1 1,lv 61 60,ob 62 pM 59 61,oi 63 (.aj 269) 62 100,fu 64 2 1 1,lv 65 64,fu 66 3 1 1,lv 67 66,ob 68 pM 65 67,ob 69 pA 63 68,mv 8 69] 0 [1,8] []) (sr [mv 70 8,mv 71 8,fa 72 4 1,lo 73 72,ob 74 pM 71 73,oi 75 (.aj 269) 74 100,ob 76 pA 70 75,mv 9 76] 0 [1,9] (sw (r1 [mv 77 9,mv 78 9,fu 79 5 1 1,lv 80 79,ob 81 pU 78 80,mv 2 77,mv 3 81,mi 4 0] 0 [2,3,4] []) .ret)))))))
def FW:aA:=(s0 [ba 1 0 0,mf 2 false] 1 [1] [1] (sw (sr [fa 5 0 1,lo 6 5,oa 7 .len 6,on 8 (.aj 268) [.t 7,kI 1,kI 5],oa 9 pN 8,mv 10 9,ow 11 (.fld 1) 1 10 0,lq 12 11 10,ow 13 .len 12 10 0,oF 14 (.aj 268) [.t 13,kI 1,kI 4] 10 0,ow 15 pN 14 10 0,pt 16 10 15] 0 [1,16] (cd 16 (sr [mf 2 false] 0 [2] .ret) .skip)) (sw (sr [fa 17 0 1,lo 18 17,oa 19 .len 18,mi 20 0] 0 [1,18,19,20] (lp (sr [ob 21 pL 20 19] 0 [1,18,19,20,21] (sw (cx 21 0) (sw (b1 (s0 [mv 22 20,ix 23 3 18 20,lw 24 3 23,al 4 0 [z0,z0,z0],mv 3 22,sk 3 4 24 0] 1 [1,3,4,18,19,20] [4] (sw (r1 [fu 25 0 4 1,lv 26 25,mv 27 3,on 28 (.aj 268) [.t 26,kI 0,.t 27],oa 29 pN 28,mv 30 29,ow 31 (.fld 1) 4 30 1,ow 32 (.load true 2) 31 30 1,ow 33 (.aj 303) 32 30 0,ow 34 pN 33 30 0,pt 35 30 34,mv 36 35,ow 37 (.fld 0) 1 36 1,ow 38 ld 37 36 1,ow 39 .mov 3 36 0,obF 40 (.Jh 3 false true false) 38 39 36 1,ow 41 (.fld 0) 4 36 1,ow 42 ld 41 36 1,obF 43 (.aj 304) 40 42 36 0,oF 44 (.bin .geq) [.t 43,kI 3] 36 0,pt 45 36 44] 0 [1,18,19,20,45] []) (cd 45 (sr [mf 2 false] 0 [2] .ret) .skip)))) (rg [oi 46 pA 20 1,mv 20 46] 0 [1,18,19,20])))))) (sr [fa 47 1 1,lo 48 47,oa 49 (.mkF (.func 305) 0) 1,ob 50 (.aj 127) 48 49,oa 51 pN 50,mv 2 51] 0 [2] .ret))))
def DL:aA:=(sr [mf 2 false] 0 [0] (sr [mv 3 0,oa 4 .len 3,oi 5 (.bin .leq) 4 8,mv 6 5,ov 7 .mov 0 6 0,ot 8 (.aj 127) [.t 7,.c (.func (.func 314) [] [])] 6 0,ov 9 pN 8 6 0,pf 10 6 9,mv 2 10] 0 [2] .ret))
def SV:aA:=(sr [mi 4 0] 0 [0,1] (sr [mv 5 0,mv 6 1,ob 7 pA 5 6,oi 8 pU 7 1,mv 9 1,ob 10 (.bin .quo) 8 9,mv 4 10] 0 [4] .ret))
def BZ:aA:=(sr [mi 2 0] 0 [0] (sr [mi 3 0] 0 [0,3] (sw (sr [mv 6 0,oa 7 .len 6,mi 8 0] 0 [3,6,7,8] (lp (sr [ob 9 pL 8 7] 0 [3,6,7,8,9] (sw (cx 9 0) (sw (b1 (sr [ix 10 1 6 8,lo 11 10,mv 5 11] 0 [3,5,6,7,8] (rg [mv 12 3,mv 13 5,ob 14 pA 12 13,mv 3 14] 0 [3,6,7,8]))) (rg [oi 15 pA 8 1,mv 8 15] 0 [3,6,7,8])))))) (sr [mv 16 3,mv 2 16] 0 [2] .ret))))
def Hy:aA:=(s0 [ba 2 0 0,ba 3 1 1,mk 4 cS,mi 5 0] 2 [2,3] [2,3] (sw (sw (r1 [ou 6 (.load true 2) 2 1,oa 7 (.aj 258) 6,oa 8 pN 7,mv 9 8,ow 10 (.fld 0) 3 9 1,ow 11 ld 10 9 1,ow 12 (.fld 0) 2 9 1,ow 13 ld 12 9 1,ow 14 .len 13 9 1,oF 15 pU [.t 14,kI 1] 9 0,oF 16 (.aj 268) [.t 11,kI 0,.t 15] 9 0,ow 17 pN 16 9 0,pt 18 9 17,mv 19 18,ow 20 (.fld 1) 3 19 1,ow 21 (.load true 2) 20 19 1,ow 22 (.aj 303) 21 19 0,ow 23 pN 22 19 0,pt 24 19 23,mv 25 24,ow 26 (.fld 1) 3 25 1,ow 27 (.load true 2) 26 25 1,ow 28 (.fld 0) 2 25 1,ow 29 ld 28 25 1,ow 30 (.fld 0) 3 25 1,ow 31 ld 30 25 1,obF 32 (.bH 3) 29 31 25 1,ow 33 (.fld 1) 32 25 1,ow 34 (.load true 2) 33 25 1,obF 35 (.CZ false [1,1]) 27 34 25 0,pt 36 25 35] 0 [2,3,36] []) (cd 36 (sr [mk 4 cS,mi 5 2] 0 [4,5] .ret) .skip)) (sw (r1 [ou 37 (.load true 2) 2 1,oa 38 (.aj 320) 37,ou 39 (.load true 2) 2 1,ou 40 (.load true 3) 3 1,ob 41 (.aj 322) 39 40,oa 42 (.aj 320) 41,ob 43 (.aj 321) 38 42,mv 4 43,mi 5 0] 0 [4,5] []) .ret)))
def JE:aA:=(s0 [ba 1 0 0,ag 2 2,ag 3 1,mi 4 0] 1 [1] [1] (sw (sr [lw 11 2 1,oa 12 (.aj 258) 11,oa 13 pN 12] 0 [1,13] (cd 13 (sr [ag 2 2,ag 3 1,mi 4 2] 0 [2,3,4] .ret) .skip)) (sr [on 14 (.build [z0,z0] [(0,1),(1,1)]) [kI 1,kI 1],oa 15 (.ng 2 [.agg [z0,z0]] [0]) 14,on 16 (.ng 1 [.bool false] [0]) [.c (.bool true)],mv 5 15,mv 6 16] 0 [1,5,6] (sw (sr [fa 17 0 1,lo 18 17,oa 19 .len 18,mi 20 0] 0 [1,5,6,19,20] (lp (sr [ob 21 pL 20 19] 0 [1,5,6,19,20,21] (sw (cx 21 0) (sw (b1 (sr [mv 22 20,mv 7 22] 0 [1,5,6,7,19,20] (s0 [lw 24 2 1,mv 25 7,oi 26 pA 25 1,ob 27 (.aj 329) 24 26,oa 28 (.aj 17) 27,mv 23 28,xa 29 0 23,xa 30 1 23,xa 31 2 23,al 8 0 [z0,z0],sk 2 8 29 0,mv 9 30,mv 10 31] 1 [1,5,6,8,9,19,20] [8] (rg [mv 32 5,lw 33 2 8,oa 34 (.dU 2 [.agg [z0,z0]] [0]) 33,ob 35 (.app 2 false) 32 34,mv 36 6,mv 37 9,oa 38 (.dU 1 [.bool false] [0]) 37,ob 39 (.app 1 false) 36 38,mv 5 35,mv 6 39] 0 [1,5,6,19,20])))) (rg [oi 40 pA 20 1,mv 20 40] 0 [1,5,6,19,20])))))) (sr [mv 41 5,mv 42 6,mv 2 41,mv 3 42,mi 4 0] 0 [2,3,4] .ret)))))
def FU:aA:=(s0 [ba 5 0 0,ba 6 1 1,ba 7 2 2,ba 8 3 3,ba 9 4 4,mk 10 cS,mi 11 0] 5 [5,6,7,8,9] [5,6,7,8,9] (sw (sr [lw 18 2 5,oa 19 (.aj 258) 18,oa 20 pN 19,mv 21 20,lq 22 6 21,lq 23 7 21,obF 24 (.aj 333) 22 23 21 0,ow 25 pN 24 21 0,pt 26 21 25,mv 27 26,lq 28 7 27,lq 29 6 27,obF 30 pU 28 29 27 0,oF 31 pG [.t 30,kI 10] 27 0,pt 32 27 31,mv 33 32,lq 34 8 33,ow 35 (.fld 1) 5 33 0,lq 36 35 33,ow 37 .len 36 33 0,oF 38 pU [.t 37,kI 1] 33 0,oF 39 (.aj 268) [.t 34,kI 0,.t 38] 33 0,ow 40 pN 39 33 0,pt 41 33 40,mv 42 41,ow 43 (.load true 2) 9 42 0,ow 44 (.aj 334) 43 42 0,ow 45 pN 44 42 0,pt 46 42 45] 0 [5,6,7,8,9,46] (cd 46 (sr [mk 10 cS,mi 11 2] 0 [10,11] .ret) .skip)) (sw (r1 [ou 47 (.load true 2) 5 1,oa 48 (.aj 320) 47,fu 49 0 9 1,lv 50 49,fu 51 1 9 1,lv 52 51,ob 53 (.build [z0,z0] [(0,1),(1,1)]) 50 52,al 12 0 [zs,zs,zs],al 13 1 [z0,z0],sk 3 12 48 4,sk 2 13 53 5] 2 [5,6,7,8,12,13] [12,13]) (sr [al 14 0 [.nilFunc]] 1 [5,6,7,8,12,13,14] (sr [on 54 (.mkF (.func 335) 0) [.t 12,.t 8,.t 13,.t 5,.t 6,.t 7,.t 14],sk 1 14 54 0] 0 [5,14] (sw (sr [mi 55 0] 0 [5,14,55] (lp (sr [oi 56 pL 55 3] 0 [5,14,55,56] (sw (cx 56 0) (sw (b1 (sr [mv 57 55,mv 15 57] 0 [5,14,15,55] (sr [lo 59 14,lw 60 2 5,mv 61 15,on 62 .dQ [.t 59,.t 60,kI 0,.t 61],mv 58 62,xa 63 0 58,xa 64 1 58,mv 16 63,mv 17 64] 0 [5,14,16,17,55] (sr [mv 65 17] 0 [5,14,16,55,65] (cd 65 (sr [mv 66 16,mv 10 66,mi 11 0] 0 [10,11] .ret) .skip))))) (rg [oi 67 pA 55 1,mv 55 67] 0 [5,14,55])))))) (sr [mk 10 cS,mi 11 5] 0 [10,11] .ret)))))))
def JG:aA:=(s0 [ba 4 0 0,ba 6 1 2,mi 8 0,mi 9 0] 2 [1,3,4,6] [4,6] (sw (sr [lw 10 2 4,oa 11 (.aj 258) 10,oa 12 pN 11,mv 13 12,ow 14 .mov 1 13 0,ow 15 (.fld 1) 4 13 0,lq 16 15 13,ow 17 .len 16 13 0,oF 18 pU [.t 17,kI 1] 13 0,oF 19 (.aj 268) [.t 14,kI 0,.t 18] 13 0,ow 20 pN 19 13 0,pt 21 13 20] 0 [1,3,4,6,21] (cd 21 (sr [mi 8 0,mi 9 2] 0 [8,9] .ret) .skip)) (sw (r1 [ou 22 (.load true 2) 4 1,fu 23 1 4 1,lv 24 23,mv 25 1,ob1 26 (.bH 1) 24 25 1,lv 27 26,ob 28 (.aj 329) 22 27,ou 29 (.load true 2) 6 1,mv 30 3,on 31 (.aj 337) [.t 28,.t 29,.t 30],xa 32 0 31,xa 33 1 31,mv 8 32,mv 9 33] 0 [8,9] []) .ret)))
def Hz:aA:=(s0 [ba 1 0 0,mf 2 false] 1 [1] [1] (sr [fa 3 0 1,lo 4 3,oa 5 (.aj 315) 4,mv 6 5,ov 7 (.fld 1) 1 6 0,ov 8 ld 7 6 0,ov 9 (.aj 315) 8 6 0,pf 10 6 9,mv 2 10] 0 [2] .ret))
def PN:aA:=(sr [mi 4 0] 0 [0,1,4] (sr [al 5 0 [z0],os (.store 1) [.t 5,kI 0] 0] 1 [0,1,4,5] (sw (sr [mv 6 0,mv 7 1,ob 8 (.aj 344) 6 7] 0 [4,5,8] (.block 0 (.nD (.t 8) [9] [5] .skip (b1 (rg [lo 10 5,oi 11 pA 10 1,sk 1 5 11 0] 0 []))))) (sr [lo 12 5,mv 4 12] 0 [4] .ret))))
def BU:aA:=(sr [mf 3 false] 0 [0,1] (sr [mv 4 0,fa 5 0 1,lo 6 5,oa 7 .len 6,on 8 (.aj 268) [.t 4,kI 1,.t 7],oa 9 pN 8,mv 3 9] 0 [3] .ret))
def AL:aA:=(sr [mf 2 false] 0 [0] (sr [mv 3 0,oa 4 (.aj 315) 3,oa 5 pN 4,mv 2 5] 0 [2] .ret))
def FY:aA:=(sr [mf 2 false] 0 [0] (sr [mv 3 0,on 4 (.aj 268) [.t 3,kI 4,kI 60],mv 2 4] 0 [2] .ret))
def MS:aA:=(s0 [ba 1 0 0,al 2 1 [zs,zs,zs]] 2 [1,2] [1] (sr [lw 6 2 1,on 7 (.build [z0,z0] [(0,1),(1,1)]) [kI 1,kI 1],oa 8 (.ng 2 [.agg [z0,z0]] [0]) 7,ob 9 (.build [zs,zs,zs] [(0,2),(2,1)]) 6 8,al 3 0 [zs,zs,zs],sk 3 3 9 0] 1 [1,2,3] (sw (sr [fa 10 0 1,lo 11 10,oa 12 .len 11,mi 13 0] 0 [1,2,3,12,13] (lp (sr [ob 14 pL 13 12] 0 [1,2,3,12,13,14] (sw (cx 14 0) (sw (b1 (sr [mv 15 13,mv 4 15] 0 [1,2,3,4,12,13] (sw (r1 [fu 16 2 3 2,ou 17 ld 16 2,fu 18 0 1 1,lv 19 18,mv 20 4,ob1 21 (.bH 3) 19 20 1,fu 22 0 21 1,lv 23 22,ix 24 2 17 23,ou 25 (.load true 2) 24 3,al 5 0 [z0,z0],sk 2 5 25 4] 1 [1,2,3,4,5,12,13] [5]) (r1 [fu 26 2 3 2,ou 27 ld 26 2,fu 28 0 5 1,lv 29 28,fu 30 0 1 1,lv 31 30,mv 32 4,ob1 33 (.bH 3) 31 32 1,fu 34 1 33 1,fu 35 0 34 1,lv 36 35,ob 37 pM 29 36,fu 38 1 5 1,lv 39 38,fu 40 0 1 1,lv 41 40,mv 42 4,ob1 43 (.bH 3) 41 42 1,fu 44 1 43 1,fu 45 1 44 1,lv 46 45,ob 47 pM 39 46,ob 48 (.build [z0,z0] [(0,1),(1,1)]) 37 47,ou 49 (.dU 2 [.agg [z0,z0]] [0]) 48 1,ob 50 (.app 2 false) 27 49,fu 51 2 3 2,sk 1 51 50 0] 0 [1,2,3,12,13] [])))) (rg [oi 52 pA 13 1,mv 13 52] 0 [1,2,3,12,13])))))) (sr [lw 53 3 3,sk 3 2 53 0] 0 [2] .ret))))
def xM:aA:=(s0 [ba 2 0 0,ba 3 1 1,ag 4 1] 2 [2,3] [2,3] (sr [ag 5 1] 0 [2,3,5] (sw (sr [fa 8 0 2,fa 9 1 8,lo 10 9,oa 11 .len 10,mi 12 0] 0 [2,3,5,10,11,12] (lp (sr [ob 13 pL 12 11] 0 [2,3,5,10,11,12,13] (sw (cx 13 0) (sw (b1 (sr [mv 14 12,ix 15 1 10 12,lo 16 15,mv 6 14,mv 7 16] 0 [2,3,5,6,7,10,11,12] (sw (r1 [fu 17 2 2 1,lv 18 17,mv 19 7,ob1 20 (.bH 2) 18 19 1,ou 21 (.load true 2) 20 1,fu 22 2 3 1,lv 23 22,mv 24 7,ob1 25 (.bH 2) 23 24 1,ou 26 (.load true 2) 25 1,ob 27 (.aj 351) 21 26,oa 28 pN 27] 0 [2,3,5,6,10,11,12,28] []) (cd 28 (rg [mv 29 5,mv 30 6,oa 31 (.dU 1 [z0] [0]) 30,ob 32 (.app 1 true) 29 31,mv 5 32] 0 [2,3,5,10,11,12]) .skip)))) (rg [oi 33 pA 12 1,mv 12 33] 0 [2,3,5,10,11,12])))))) (sr [mv 34 5,mv 4 34] 0 [4] .ret))))
def FV:aA:=(s0 [ba 2 0 0,ba 3 1 1,al 4 2 [zs,zs]] 3 [2,3,4] [3] (sr [fa 5 0 2,lo 6 5,oa 7 (.kZ 214) 6,fa 8 0 2,sk 1 8 7 0] 0 [2,3,4] (sr [fa 9 0 2,lo 10 9,fa 11 0 3,lo 12 11,fa 13 1 3,lw 14 2 13,ix 15 3 10 12,fa 16 1 15,sk 2 16 14 0] 0 [2,4] (sr [lw 17 2 2,sk 2 4 17 0] 0 [4] .ret))))
def JF:aA:=(s0 [ba 2 0 0,mk 4 cS,mi 5 0] 1 [1,2] [2] (sw (sr [lw 6 2 2,oa 7 (.aj 258) 6,oa 8 pN 7,mv 9 8,ow 10 .mov 1 9 0,ow 11 (.fld 0) 2 9 0,lq 12 11 9,ow 13 .len 12 9 0,oF 14 (.aj 268) [.t 10,kI 1,.t 13] 9 0,ow 15 pN 14 9 0,pt 16 9 15] 0 [1,2,16] (cd 16 (sr [mk 4 cS,mi 5 2] 0 [4,5] .ret) .skip)) (sr [lw 17 2 2,mv 18 1,ob 19 (.aj 329) 17 18,mv 4 19,mi 5 0] 0 [4,5] .ret)))
def FZ:aA:=(s0 [ba 2 0 0,mk 4 cS] 1 [1,2,4] [2] (sr [al 5 0 [zs]] 1 [1,2,4,5] (sw (sr [fa 7 0 2,lo 8 7,mv 9 1,ob 10 (.aj 344) 8 9] 0 [2,4,5,10] (.block 0 (.nD (.t 10) [11] [2,5] (rg [mv 6 11] 0 [2,5,6]) (b1 (r1 [ou 12 ld 5 2,fu 13 0 2 1,lv 14 13,mv 15 6,ob1 16 (.bH 3) 14 15 1,fu 17 1 16 1,ou 18 (.load true 2) 17 1,ou 19 (.dU 2 [.agg [z0,z0]] [0]) 18 1,ob 20 (.app 2 true) 12 19,sk 1 5 20 0] 0 [] []))))) (sr [lo 21 5,mv 4 21] 0 [4] .ret))))
def FX:aA:=(sr [mf 4 false] 0 [0,1] (sr [mv 5 0,oa 6 (.aj 315) 5,mv 7 6,ov 8 .mov 1 7 0,ov 9 (.aj 315) 8 7 0,pf 10 7 9,mv 11 10,ov 12 .mov 0 11 0,ov 13 .mov 1 11 0,obT 14 (.bin .leq) 12 13 11 0,pf 15 11 14,mv 4 15] 0 [4] .ret))
def AO:aA:=(s0 [ba 1 0 0,mf 2 false] 1 [1] [1] (sr [fa 3 0 1,lo 4 3,on 5 (.aj 268) [.t 4,kI 0,kI 50000],mv 6 5,ov 7 (.fld 1) 1 6 0,ov 8 ld 7 6 0,ot 9 (.aj 268) [.t 8,kI 1,kI 50000] 6 0,pf 10 6 9,mv 2 10] 0 [2] .ret))
def nO:aA:=(s0 [ba 10 0 0,ag 13 3,mf 14 false] 1 [1,2,3,4,5,6,7,8,9,10] [10] (sw (sr [mv 21 2,oi 22 pE 21 0] 0 [1,2,3,4,5,6,7,8,9,10,22] (cd 22 (sw (r1 [ou 23 (.load true 3) 3 1,ou 24 (.load true 2) 10 1,oa 25 (.aj 320) 24,lv 26 4,ou 27 (.load true 2) 5 1,on 28 (.aj 336) [.t 23,.t 25,.t 26,.t 27],ag 13 3,mv 14 28] 0 [13,14] [13]) .ret) .skip)) (sw (sr [mv 29 1,mv 15 29] 0 [2,6,7,8,9,10,15] (lp (sw (sr [mv 30 15,fa 31 0 6,lo 32 31,oa 33 .len 32,ob 34 pL 30 33] 0 [2,6,7,8,9,10,15,34] (cx 34 0)) (sw (b1 (sr [lo 37 7,mv 16 37] 0 [2,6,7,8,9,10,15,16] (.block 2 (.loop (sw (sr [mv 38 16,lo 39 8,ob 40 (.bin .leq) 38 39] 0 [2,6,7,8,9,10,15,16,40] (cx 40 2)) (sw (.block 3 (sr [lo 43 7,mv 17 43] 0 [2,6,7,8,9,10,15,16,17] (.block 4 (.loop (sw (sr [mv 44 17,lo 45 8,ob 46 (.bin .leq) 44 45] 0 [2,6,7,8,9,10,15,16,17,46] (cx 46 4)) (sw (.block 5 (s0 [mv 49 15,mv 50 16,mv 51 17,ob 52 (.build [z0,z0] [(0,1),(1,1)]) 50 51,ob 53 (.build [z0,z0,z0] [(0,1),(1,2)]) 49 52,al 18 0 [z0,z0,z0],sk 3 18 53 0] 1 [2,6,7,8,9,10,15,16,17,18] [18] (sw (sw (r1 [fu 54 1 18 1,ou 55 (.load true 2) 54 1,fu 56 0 6 1,lv 57 56,mv 58 15,ob1 59 (.bH 3) 57 58 1,fu 60 1 59 1,ou 61 (.load true 2) 60 1,ob 62 (.CZ false [1,1]) 55 61] 0 [2,6,7,8,9,10,15,16,17,18,62] []) (cd 62 (.exit 5) .skip)) (sw (r1 [ou 64 ld 9 2,ou 65 (.load true 2) 10 1,ou 66 (.load true 3) 18 1,ob 67 (.aj 322) 65 66,mv 68 15,oi 69 pA 68 1,mv 70 2,oi 71 pU 70 1,on 72 .dQ [.t 64,.t 67,.t 69,.t 71],mv 63 72,xa 73 0 63,xa 74 1 63,mv 19 73,mv 20 74] 0 [2,6,7,8,9,10,15,16,17,18,19,20] []) (sr [mv 75 20] 0 [2,6,7,8,9,10,15,16,17,18,19,75] (cd 75 (s0 [lw 76 3 18,oa 77 (.dU 3 [.agg [z0,z0,z0]] [0]) 76,mv 78 19,ob 79 (.app 3 false) 77 78,mv 13 79,mf 14 true] 0 [13,14] [13,13] .ret) .skip)))))) (rg [mv 47 17,oi 48 pA 47 1,mv 17 48] 0 [2,6,7,8,9,10,15,16,17]))))))) (rg [mv 41 16,oi 42 pA 41 1,mv 16 42] 0 [2,6,7,8,9,10,15,16]))))))) (rg [mv 35 15,oi 36 pA 35 1,mv 15 36] 0 [2,6,7,8,9,10,15]))))) (s0 [ag 13 3,mf 14 false] 0 [13,14] [13] .ret))))
def yY:aA:=(s0 [ba 4 0 0,ba 5 1 1,ba 7 2 3,mf 8 false] 3 [2,4,5,7] [4,5,7] (sw (sw (r1 [fu 10 2 5 1,lv 11 10,fu 12 0 4 1,fu 13 1 12 1,lv 14 13,mv 15 2,ob1 16 (.bH 1) 14 15 1,lv 17 16,ob1 18 (.bH 2) 11 17 1,ou 19 (.load true 2) 18 1,ou 20 (.load true 2) 7 1,ob 21 (.aj 351) 19 20,oa 22 pN 21] 0 [2,4,5,22] []) (cd 22 (sr [mf 8 false] 0 [8] .ret) .skip)) (sr [lw 23 3 4,lw 24 3 5,ob 25 (.aj 321) 23 24,mv 9 25] 0 [2,9] (sr [mv 26 9,oa 27 .len 26,oi 28 pE 27 0,mv 29 28,ow 30 .mov 9 29 0,ow 31 .len 30 29 0,oF 32 pE [.t 31,kI 1] 29 0,ow 33 .mov 32 29 0,ov 34 .mov 9 33 0,ot 35 (.bH 1) [.t 34,kI 0] 33 0,ov 36 ld 35 33 0,ov 37 .mov 2 33 0,obT 38 pE 36 37 33 0,oF 39 .pick [.t 33,.t 38,.c (.bool false)] 29 0,pt 40 29 39,mv 8 40] 0 [8] .ret))))
def MR:aA:=(s0 [ba 2 0 0,ba 3 1 1,mk 4 (.c (.nilFunc))] 2 [2,3] [2,3] (sr [ob 5 (.mkF (.func 364) 0) 2 3,mv 4 5] 0 [4] .ret))
def BX:aA:=(s0 [ba 2 0 0,ba 3 1 1,mf 4 false] 2 [2,3] [2,3] (sr [fa 5 0 2,lo 6 5,fa 7 1 3,lo 8 7,ob 9 pM 6 8,fa 10 0 3,lo 11 10,fa 12 1 2,lo 13 12,ob 14 pM 11 13,ob 15 pE 9 14,mv 4 15] 0 [4] .ret))
def HY:aA:=(sr [ba 3 0 0] 1 [1,2,3] (sr [al 4 0 [.nilFunc]] 1 [1,2,3,4] (sr [on 5 (.mkF (.func 365) 0) [.t 4,.t 1,.t 3],sk 1 4 5 0] 0 [2,4] (rg [lo 6 4,lo 7 2,ob 8 .dQ 6 7] 0 []))))
def wI:aA:=(sr [mf 5 false] 0 [0,1,2,3] (sw (sr [mv 6 0,oi 7 pE 6 0] 0 [0,1,2,3,7] (cd 7 (sr [mf 5 true] 0 [5] .ret) .skip)) (sw (r1 [ou 8 ld 1 2,lv 9 2,mv 10 0,oi 11 pU 10 1,ob1 12 (.bH 3) 9 11 1,fu 13 0 12 1,lv 14 13,ob 15 .dQ 8 14,mv 16 15,ov 17 ld 3 16 2,ov 18 .mov 0 16 0,ot 19 pU [.t 18,kI 1] 16 0,obT 20 .dQ 17 19 16 0,pf 21 16 20,mv 5 21] 0 [5] []) .ret)))
def DK:aA:=(s0 [ba 2 0 0,ba 3 1 1,mk 4 cS,mi 5 0] 2 [2,3] [2,3] (sw (sw (r1 [ou 6 (.load true 2) 2 1,oa 7 (.aj 258) 6,oa 8 pN 7,mv 9 8,ow 10 (.fld 0) 3 9 1,ow 11 ld 10 9 1,ow 12 (.fld 0) 2 9 1,ow 13 ld 12 9 1,ow 14 .len 13 9 1,oF 15 pU [.t 14,kI 1] 9 0,oF 16 (.aj 268) [.t 11,kI 0,.t 15] 9 0,ow 17 pN 16 9 0,pt 18 9 17,mv 19 18,ow 20 (.fld 1) 3 19 1,ow 21 (.load true 2) 20 19 1,ow 22 (.aj 303) 21 19 0,ow 23 pN 22 19 0,pt 24 19 23,mv 25 24,ow 26 (.fld 1) 3 25 1,ow 27 (.load true 2) 26 25 1,ow 28 (.fld 0) 2 25 1,ow 29 ld 28 25 1,ow 30 (.fld 0) 3 25 1,ow 31 ld 30 25 1,obF 32 (.bH 3) 29 31 25 1,ow 33 (.fld 1) 32 25 1,ow 34 (.load true 2) 33 25 1,obF 35 (.CZ false [1,1]) 27 34 25 0,pt 36 25 35] 0 [2,3,36] []) (cd 36 (sr [mk 4 cS,mi 5 2] 0 [4,5] .ret) .skip)) (sw (r1 [ou 37 (.load true 2) 2 1,oa 38 (.aj 320) 37,ou 39 (.load true 2) 2 1,ou 40 (.load true 3) 3 1,ob 41 (.aj 322) 39 40,oa 42 (.aj 320) 41,ob1 43 (.kZ 321) 38 42 1,mv 4 43,mi 5 0] 0 [4,5] []) .ret)))
end Go.Tel
