/-
  Part 12 of the proof of a law of desks: an abstract machine over the model, contracts of functions, plain laws.
  Conditions: none.
-/
import Derived.Test.YtbefoehadfnkbaaGreatDoorJourneymanNilM11
import Derived.ProofKit
import Derived.Deep.Slices
import Derived.IntWalk
set_option linter.all false
namespace Go.Am
section
variable {C:Ctx}{nb na:Nat}{Q:Ex→St→Prop}{env:List (Nat×PV)}{bs:List (Option (List PV))}{fz:List Nat}{as:List (Option Arr)}{s:St}
theorem ajf:pwp C nb na .skip Q s=Q .normal s:=propext ⟨id,id⟩
theorem agS {l:Nat}:pwp C nb na (.label l) Q s=Q .normal s:=propext ⟨id,id⟩
theorem alf:pwp C nb na .ret Q s=Q .ret s:=propext ⟨id,id⟩
theorem aje {i:Nat}:pwp C nb na (.exit i) Q s=Q (.exit i) s:=propext ⟨id,id⟩
theorem agT {b:aB}:pwp C nb na (.scope b) Q s=pwp C nb na b Q s:=propext ⟨id,id⟩
def ajs (C:Ctx)(nb na:Nat)(b:aB)(Q:Ex→St→Prop):Ex→St→Prop:=fun e s'=>match e with| .normal=>pwp C nb na b Q s'|e=>Q e s'
def OB (id:Nat)(Q:Ex→St→Prop):Ex→St→Prop:=fun e s'=>match e with| .exit id'=>if id'=id then Q .normal s' else Q (.exit id') s'|e=>Q e s'
def Ug (nb na:Nat)(I:Nat→St→Prop)(n:Nat)(Q:Ex→St→Prop):Ex→St→Prop:=fun e s'=>match e with| .normal=>∃n' s'',n'<n∧Weak nb na s' s''∧I n' s''|e=>Q e s'
theorem alg {a b:aB}:pwp C nb na (.seq a b) Q s=pwp C nb na a (ajs C nb na b Q) s:=propext ⟨id,id⟩
theorem acd {b:aB}:ajs C nb na b Q .normal s=pwp C nb na b Q s:=propext ⟨id,id⟩
theorem ajt {b:aB}:ajs C nb na b Q .ret s=Q .ret s:=propext ⟨id,id⟩
theorem ag3 {b:aB}{i:Nat}:ajs C nb na b Q (.exit i) s=Q (.exit i) s:=propext ⟨id,id⟩
theorem aem {b:aB}{d:DV}:ajs C nb na b Q (.panic d) s=Q (.panic d) s:=propext ⟨id,id⟩
theorem agR {i:Nat}{b:aB}:pwp C nb na (.block i b) Q s=pwp C nb na b (OB i Q) s:=propext ⟨id,id⟩
theorem XC {i:Nat}:OB i Q .normal s=Q .normal s:=propext ⟨id,id⟩
theorem acN {i:Nat}:OB i Q .ret s=Q .ret s:=propext ⟨id,id⟩
theorem Y6 {i:Nat}{d:DV}:OB i Q (.panic d) s=Q (.panic d) s:=propext ⟨id,id⟩
theorem TI {i j:Nat}:OB i Q (.exit j) s=if j=i then Q .normal s else Q (.exit j) s:=propext ⟨id,id⟩
theorem acM {i j:Nat}(h:(j==i)=true):OB i Q (.exit j) s=Q .normal s:=by rw[TI,if_pos (by simpa using h)]
theorem aao {i j:Nat}(h:(j==i)=false):OB i Q (.exit j) s=Q (.exit j) s:=by rw[TI,if_neg (by simpa using h)]
theorem ZA {I:Nat→St→Prop}{n:Nat}:Ug nb na I n Q .normal s=∃n' s'',n'<n∧Weak nb na s s''∧I n' s'':=propext ⟨id,id⟩
theorem agI {I:Nat→St→Prop}{n:Nat}:Ug nb na I n Q .ret s=Q .ret s:=propext ⟨id,id⟩
theorem adV {I:Nat→St→Prop}{n i:Nat}:Ug nb na I n Q (.exit i) s=Q (.exit i) s:=propext ⟨id,id⟩
theorem abj {I:Nat→St→Prop}{n:Nat}{d:DV}:Ug nb na I n Q (.panic d) s=Q (.panic d) s:=propext ⟨id,id⟩
theorem Ee {b:aB}(I:Nat→St→Prop)(n:Nat)(h0:I n s)(hr:∀n s,I n s→pwp C nb na b (Ug nb na I n Q) s):pwp C nb na (.loop b) Q s:=⟨I,n,h0,hr⟩
theorem QJ {x:Bool}{c:Opd}{a b:aB}(h:s.val c= .d (.bool x)):pwp C nb na (.cond c a b) Q s=((x=true→pwp C nb na a Q s)∧(x=false→pwp C nb na b Q s)):=by
 simp only[pwp,h]
theorem aed {t:Nat}{a b:aB}{m:Mem}(h:look env t= .d (.bool true)):pwp C nb na (.cond (.t t) a b) Q ⟨env,m⟩=pwp C nb na a Q ⟨env,m⟩:=by
 rw[QJ (s:=⟨env,m⟩) (c:= .t t) (x:=true) h];simp
theorem aec {t:Nat}{a b:aB}{m:Mem}(h:look env t= .d (.bool false)):pwp C nb na (.cond (.t t) a b) Q ⟨env,m⟩=pwp C nb na b Q ⟨env,m⟩:=by
 rw[QJ (s:=⟨env,m⟩) (c:= .t t) (x:=false) h];simp
theorem abT {a b:aB}:pwp C nb na (.cond (.c (.bool true)) a b) Q s=pwp C nb na a Q s:=by
 rw[QJ (x:=true) rfl];simp
theorem abS {a b:aB}:pwp C nb na (.cond (.c (.bool false)) a b) Q s=pwp C nb na b Q s:=by
 rw[QJ (x:=false) rfl];simp
theorem WT {d:Bool}{ops:List PO}{ad3:Nat}{keep fzs:List Nat}{m:Mem}:pwp C nb na (.region d ops ad3 keep fzs) Q ⟨env,m⟩=
  zD C m.boxes.length ops (fun s'=>zX fzs (Q .normal) ⟨iF s'.env keep,s'.mem⟩) (fun d M=>Q (.panic d) ⟨[],M⟩) ⟨env,⟨m.boxes++List.replicate ad3 none,m.fz,m.aA⟩⟩:=propext ⟨id,id⟩
theorem abU {d:Bool}{ops:List PO}{keep:List Nat}{m:Mem}:pwp C nb na (.region d ops 0 keep []) Q ⟨env,m⟩=
  zD C m.boxes.length ops (fun s'=>Q .normal ⟨iF s'.env keep,s'.mem⟩) (fun d M=>Q (.panic d) ⟨[],M⟩) ⟨env,m⟩:=by
 rw[WT];simp only[List.replicate_zero,List.append_nil,zX]
theorem agq {K:St→Prop}:zX [] K s=K s:=propext ⟨id,id⟩
theorem abb:iF env []=[]:=rfl
theorem Zr {k:Nat}{ks:List Nat}:iF env (k::ks)=(k,look env k)::iF env ks:=by simp only[iF,List.map_cons]
end
section
variable {C:Ctx}{base:Nat}{K:St→Prop}{KP:DV→Mem→Prop}{s:St}{env:List (Nat×PV)}{m:Mem}
theorem aek:zD C base [] K KP s=K s:=propext ⟨id,id⟩
theorem ab5 {o:PO}{os:List PO}:zD C base (o::os) K KP s=fU C base o (fun s'=>zD C base os K KP s') KP s:=propext ⟨id,id⟩
theorem alv {dst:Option Nat}{op:POp}{args:List Opd}:fU C base ⟨dst,op,args,none,0⟩ K KP ⟨env,m⟩=aj C base op (args.map (St.val ⟨env,m⟩)) m (fun v M=>K ⟨put env dst v,M⟩) KP:=propext ⟨fun h=>h.2,fun h=>⟨trivial,h⟩⟩
theorem ajn {dst:Option Nat}{op:POp}{args:List Opd}{fl:Nat}:fU C base ⟨dst,op,args,none,fl⟩ K KP ⟨env,m⟩=(CX base fl (args.map (St.val ⟨env,m⟩))∧aj C base op (args.map (St.val ⟨env,m⟩)) m (fun v M=>K ⟨put env dst v,M⟩) KP):=propext ⟨id,id⟩
theorem ajq {dst:Option Nat}{op:POp}{args:List Opd}{fl t:Nat}(h:look env t= .d (.bool true)):fU C base ⟨dst,op,args,some (t,true),fl⟩ K KP ⟨env,m⟩=
  (CX base fl (args.map (St.val ⟨env,m⟩))∧aj C base op (args.map (St.val ⟨env,m⟩)) m (fun v M=>K ⟨put env dst v,M⟩) KP):=by
 simp only[fU,h];simp
theorem ajm {dst:Option Nat}{op:POp}{args:List Opd}{fl t:Nat}(h:look env t= .d (.bool false)):fU C base ⟨dst,op,args,some (t,false),fl⟩ K KP ⟨env,m⟩=
  (CX base fl (args.map (St.val ⟨env,m⟩))∧aj C base op (args.map (St.val ⟨env,m⟩)) m (fun v M=>K ⟨put env dst v,M⟩) KP):=by
 simp only[fU,h];simp
theorem ajp {dst:Option Nat}{op:POp}{args:List Opd}{fl t:Nat}(h:look env t= .d (.bool false)):fU C base ⟨dst,op,args,some (t,true),fl⟩ K KP ⟨env,m⟩=K ⟨put env dst (.d (.tup [])),m⟩:=by
 simp only[fU,h];simp
theorem ajo {dst:Option Nat}{op:POp}{args:List Opd}{fl t:Nat}(h:look env t= .d (.bool true)):fU C base ⟨dst,op,args,some (t,false),fl⟩ K KP ⟨env,m⟩=K ⟨put env dst (.d (.tup [])),m⟩:=by
 simp only[fU,h];simp
theorem alx {dst:Option Nat}{op:POp}{args:List Opd}{fl t:Nat}{w:Bool}(h:look env t= .d (.tup [])):fU C base ⟨dst,op,args,some (t,w),fl⟩ K KP ⟨env,m⟩=K ⟨put env dst (.d (.tup [])),m⟩:=by
 simp only[fU,h]
theorem amJ {args:List PV}:CX base 0 args=True:=rfl
theorem amK {args:List PV}:CX base 1 args=(args.all PV.isD=true):=propext ⟨id,id⟩
theorem akw {b o:Nat}{l:List PV}:CX base 2 (.ptr b o::l)=(b<base):=propext ⟨id,id⟩
theorem akv {x:DV}{l:List PV}:CX base 2 (.d x::l)=True:=propext ⟨id,id⟩
theorem amM {k v i o:Nat}{l:List PV}:CX base 3 (.jX k v i o::l)=True:=propext ⟨id,id⟩
theorem amN {i b o:Nat}{l:List PV}:CX base (i+4) (.ptr b o::l)=(b=base+i):=propext ⟨id,id⟩
theorem akx {f b o:Nat}{l:List PV}(h:4≤f):CX base f (.ptr b o::l)=(b=base+(f - 4)):=by
 obtain⟨i,rfl⟩:∃i,f=i+4:=⟨f - 4,by omega⟩
 rw[amN];simp
theorem aoE {x:DV}:PV.isD (.d x)=true:=rfl
theorem ajd {d:Nat}{v:PV}:put env (some d) v=(d,v)::env:=by simp only[put]
theorem ajc {v:PV}:put env none v=env:=by simp only[put]
theorem aiR {d:Nat}{v:PV}:look ((d,v)::env) d=v:=by simp[look]
theorem agH {d t:Nat}{v:PV}(h:(d==t)=false):look ((d,v)::env) t=look env t:=by simp[look,h]
theorem aoX {n:Nat}:St.val ⟨env,m⟩ (.t n)=look env n:=by simp only[St.val]
theorem aoW {x:DV}:St.val ⟨env,m⟩ (.c x)= .d x:=by simp only[St.val]
end
section
variable {C:Ctx}{base:Nat}{M:Mem}{K:PV→Mem→Prop}{KP:DV→Mem→Prop}
theorem amF {x:PV}:aj C base .mov [x] M K KP=K x M:=propext ⟨id,id⟩
theorem agd {sz:Nat}{xs:List DV}:aj C base (.jV sz) [.d (.slice true xs)] M K KP=(0<sz∧(∀e∈xs,e.fits sz=true)∧K (.tsl M.aA.length 0 0) {M with aA:=M.aA++ [some ⟨sz,xs,0,0⟩]}):=propext ⟨fun h=>h.2,fun h=>⟨rfl,h⟩⟩
theorem aaI {sz:Nat}:aj C base (.jV sz) [.d (.slice true [])] M K KP=(0<sz∧K (.tsl M.aA.length 0 0) {M with aA:=M.aA++ [some ⟨sz,[],0,0⟩]}):=by
 rw[agd];simp
theorem agf {sz k ver skip:Nat}:aj C base (.jV sz) [.tsl k ver skip] M K KP=K (.tsl k ver skip) M:=propext ⟨id,id⟩
theorem akt {t:Bool}{x y:PV}:aj C base .pick [.d (.bool t),x,y] M K KP=K (bif t then x else y) M:=propext ⟨id,id⟩
theorem ah2 {i:Nat}{zs:List DV}:aj C base (.alloc i zs) [] M K KP=(M.boxes[base+i]?=some none∧K (.ptr (base+i) 0) {M with boxes:=M.boxes.set (base+i) (some (zs.map .d))}):=propext ⟨id,id⟩
theorem amB {i:Nat}{x:PV}:aj C base (.box i) [x] M K KP=(x.vw=false∧M.boxes[base+i]?=some none∧K (.ptr (base+i) 0) {M with boxes:=M.boxes.set (base+i) (some x.cells)}):=propext ⟨id,id⟩
theorem ah4 {zs:List DV}{ps:List (Nat×Nat)}{args:List PV}:aj C base (.build zs ps) args M K KP=(match nZ (zs.map .d) ps args with|some cs=>K (GN cs) M|none=>False):=propext ⟨id,id⟩
theorem aks {sz:Nat}{zs xs ds:List DV}{is:List Nat}{args:List PV}(h1:dw M args=some ds)(h2:yE sz zs is (ds.map DV.strip)=some xs):aj C base (.iO sz zs is) args M K KP=K (.d (.slice true xs)) (M.frz args):=by
 simp only[aj,h1,h2]
theorem akr {agg:Bool}{n:Nat}{x:PV}:aj C base (.load agg n) [x] M K KP=bQ agg n x M fun v=>K v M:=propext ⟨id,id⟩
theorem ah6 {agg:Bool}{n:Nat}{x:PV}:aj C base (.NU agg n) [x] M K KP=qM agg n x M fun v=>K v M:=propext ⟨id,id⟩
theorem ah8 {n:Nat}{x v:PV}:aj C base (.store n) [x,v] M K KP=jI n x v M fun M'=>K .dead M':=propext ⟨id,id⟩
theorem adp {b o:Nat}:aj C base .aV [.ptr b o] M K KP=K (.ptr b o) M:=propext ⟨id,id⟩
theorem ado {cs:List DV}:aj C base .aV [.d (.aT cs)] M K KP=K (.d (.aT cs)) M:=propext ⟨id,id⟩
theorem amA {op:BinOp}{x y:PV}:aj C base (.bin op) [x,y] M K KP=TG op x y fun v=>K (.d v) M:=propext ⟨id,id⟩
theorem aeM {neq t:Bool}{ks:List Nat}{a b:List DV}(h:dF ks a b=some t):aj C base (.PL neq ks) [.d (.agg a), .d (.agg b)] M K KP=K (.d (.bool (t !=neq))) M:=by simp only[aj,h]
theorem akh {neq a b:Bool}:aj C base (.aam neq) [.d (.bool a), .d (.bool b)] M K KP=K (.d (.bool ((a==b) !=neq))) M:=propext ⟨id,id⟩
theorem ah5 {neq ex:Bool}{xs:List DV}:aj C base (.isNil neq) [.d (.slice ex xs), .d (.slice true [])] M K KP=((xs≠[]→K (.d (.bool neq)) M)∧(xs=[]→∀b,K (.d (.bool b)) M)):=propext ⟨id,id⟩
theorem an1 {op:UnOp}{x:PV}:aj C base (.un op) [x] M K KP=acv op x fun v=>K (.d v) M:=propext ⟨id,id⟩
theorem akj {k k':IntKind}{n:Int}:aj C base (.conv k) [.d (.int k' n)] M K KP=K (.d (.int k (k.wrap n))) M:=propext ⟨id,id⟩
theorem amE {fn:Fn}{nf:Nat}{args:List PV}:aj C base (.mkF fn nf) args M K KP=(match je args with|some ds=>K (.d (.func fn (ds.take nf) (ds.drop nf))) M|none=>K (.func fn (args.take nf) (args.drop nf)) M):=propext ⟨id,id⟩
theorem amC {off:Nat}{x:PV}:aj C base (.fld off) [x] M K KP=nO off x M fun v=>K v M:=propext ⟨id,id⟩
theorem akl {agg:Bool}{off n:Nat}{x:PV}:aj C base (.XH agg off n) [x] M K KP=(x.isAgg=true∧off+n≤x.cells.length∧K (ld agg n off x.cells) M):=propext ⟨id,id⟩
theorem akm {sz:Nat}{x i:PV}:aj C base (.bF sz) [x,i] M K KP=xY sz x i M fun v=>K v M:=propext ⟨id,id⟩
theorem akn {s:ByteArray}{k:IntKind}{n:Int}:aj C base .aaY [.d (.str s), .d (.int k n)] M K KP=(0≤n∧n.toNat<s.size∧K (.d (.int .u8 (s.data.getD n.toNat 0).toNat)) M):=propext ⟨id,id⟩
theorem ako {agg:Bool}{sz len:Nat}{x:PV}{k:IntKind}{n:Int}:aj C base (.XK agg sz len) [x, .d (.int k n)] M K KP=(x.isAgg=true∧0≤n∧n<len∧n.toNat*sz+sz≤x.cells.length∧K (ld agg sz (n.toNat*sz) x.cells) M):=propext ⟨id,id⟩
theorem aki {f:FuncId}{args:List PV}:aj C base (.call f) args M K KP=SC C f args M K KP:=propext ⟨id,id⟩
theorem Yk {f:FuncId}{args:List PV}:aj C base (.iT f) args M K KP=QZ C f args M K:=propext ⟨id,id⟩
theorem amy {sz:Nat}{st1:Bool}{s x:PV}:aj C base (.app sz st1) [s,x] M K KP=mV sz st1 s x M K:=propext ⟨id,id⟩
theorem amD {x:PV}:aj C base .len [x] M K KP=vM x M fun n=>K (.d (.int .i64 n)) M:=propext ⟨id,id⟩
theorem akq {s:ByteArray}:aj C base .JW [.d (.str s)] M K KP=K (.d (.int .i64 s.size)) M:=propext ⟨id,id⟩
theorem akp {n:Nat}{args:List PV}:aj C base (.abf n) args M K KP=K (.d (.int .i64 n)) M:=propext ⟨id,id⟩
theorem agi {mx:Bool}{k k':IntKind}{a b:Int}:aj C base (.KL mx) [.d (.int k a), .d (.int k' b)] M K KP=K (.d (.int k (bif mx then(if b>a then b else a)else(if b<a then b else a)))) M:=propext ⟨id,id⟩
theorem aaL {neq:Bool}{b o:Nat}:aj C base (.Bg neq) [.ptr b o, .d .nilPtr] M K KP=K (.d (.bool neq)) M:=propext ⟨id,id⟩
theorem aaJ {neq:Bool}{cs:List DV}:aj C base (.Bg neq) [.d (.aT cs), .d .nilPtr] M K KP=K (.d (.bool neq)) M:=propext ⟨id,id⟩
theorem aaK {neq:Bool}:aj C base (.Bg neq) [.d .nilPtr, .d .nilPtr] M K KP=K (.d (.bool !neq)) M:=propext ⟨id,id⟩
theorem adk {sz len b o:Nat}{k:IntKind}{n:Int}:aj C base (.NR sz len) [.ptr b o, .d (.int k n)] M K KP=(0≤n∧n<len∧K (.ptr b (o+n.toNat*sz)) M):=propext ⟨id,id⟩
theorem adi {sz len:Nat}{cs:List DV}{k:IntKind}{n:Int}:aj C base (.NR sz len) [.d (.aT cs), .d (.int k n)] M K KP=(0≤n∧n<len∧n.toNat*sz≤cs.length∧K (.d (.aT (cs.drop (n.toNat*sz)))) M):=propext ⟨id,id⟩
theorem Zi {agg:Bool}{sz len:Nat}{cs:List DV}:aj C base (.X0 agg sz len) [.d (.aT cs)] M K KP=(cs.length=len*sz∧(agg=false→sz=1∧∀c∈cs,c.one=true)∧K (.d (.slice true (y9 agg sz len cs))) M):=propext ⟨id,id⟩
theorem aj6 {op:BinOp}{k:IntKind}{a b:Int}{K:DV→Prop}:TG op (.d (.int k a)) (.d (.int k b)) K=oP op k a b K:=propext ⟨fun h=>h.2,fun h=>⟨rfl,h⟩⟩
theorem akK {k:IntKind}{a b:Int}{K:DV→Prop}:oP .add k a b K=K (.int k (k.wrap (a+b))):=propext ⟨id,id⟩
theorem akU {k:IntKind}{a b:Int}{K:DV→Prop}:oP .sub k a b K=K (.int k (k.wrap (a - b))):=propext ⟨id,id⟩
theorem akQ {k:IntKind}{a b:Int}{K:DV→Prop}:oP .mul k a b K=K (.int k (k.wrap (a*b))):=propext ⟨id,id⟩
theorem akS {k:IntKind}{a b:Int}{K:DV→Prop}:oP .quo k a b K=(b≠0∧K (.int k (k.wrap (a.tdiv b)))):=propext ⟨id,id⟩
theorem akT {k:IntKind}{a b:Int}{K:DV→Prop}:oP .rem k a b K=(b≠0∧K (.int k (a.tmod b))):=propext ⟨id,id⟩
theorem akL {k:IntKind}{a b:Int}{K:DV→Prop}:oP .eql k a b K=K (.bool (a==b)):=propext ⟨id,id⟩
theorem akR {k:IntKind}{a b:Int}{K:DV→Prop}:oP .neq k a b K=K (.bool (a !=b)):=propext ⟨id,id⟩
theorem akP {k:IntKind}{a b:Int}{K:DV→Prop}:oP .lss k a b K=K (.bool (decide (a<b))):=propext ⟨id,id⟩
theorem akO {k:IntKind}{a b:Int}{K:DV→Prop}:oP .leq k a b K=K (.bool (decide (a≤b))):=propext ⟨id,id⟩
theorem akN {k:IntKind}{a b:Int}{K:DV→Prop}:oP .gtr k a b K=K (.bool (decide (a>b))):=propext ⟨id,id⟩
theorem akM {k:IntKind}{a b:Int}{K:DV→Prop}:oP .geq k a b K=K (.bool (decide (a≥b))):=propext ⟨id,id⟩
theorem anQ {k:IntKind}{a:Int}{K:DV→Prop}:acv .neg (.d (.int k a)) K=K (.int k (k.wrap (0 - a))):=propext ⟨id,id⟩
theorem anR {a:Bool}{K:DV→Prop}:acv .not (.d (.bool a)) K=K (.bool !a):=propext ⟨id,id⟩
theorem anx {agg:Bool}{n:Nat}{cs:List DV}{K:PV→Prop}:bQ agg n (.d (.aT cs)) M K=(n≤cs.length∧K (ldD agg n 0 cs)):=propext ⟨id,id⟩
theorem an4 {off:Nat}{cs:List DV}{K:PV→Prop}:nO off (.d (.aT cs)) M K=(off≤cs.length∧K (.d (.aT (cs.drop off)))):=propext ⟨id,id⟩
theorem an5 {off b o:Nat}{K:PV→Prop}:nO off (.ptr b o) M K=K (.ptr b (o+off)):=propext ⟨id,id⟩
theorem anr {sz:Nat}{ex:Bool}{xs:List DV}{k:IntKind}{n:Int}{K:PV→Prop}:xY sz (.d (.slice ex xs)) (.d (.int k n)) M K=(0≤n∧n.toNat<xs.length∧(xs.getD n.toNat default).cells.length=sz∧K (.d (.aT (xs.getD n.toNat default).cells))):=propext ⟨id,id⟩
theorem aoI {ex:Bool}{xs:List DV}{K:Int→Prop}:vM (.d (.slice ex xs)) M K=K xs.length:=propext ⟨id,id⟩
theorem aiN {n off:Nat}{cs:List PV}:ld false n off cs=cs.getD off .dead:=rfl
theorem akY {n off:Nat}{cs:List PV}:ld true n off cs=GN ((cs.drop off).take n):=rfl
theorem agB {n off:Nat}{cs:List DV}:ldD false n off cs= .d (cs.getD off default):=rfl
theorem aiM {n off:Nat}{cs:List DV}:ldD true n off cs= .d (.agg ((cs.drop off).take n)):=rfl
theorem ac1 {cs:List DV}:PV.cells (.d (.agg cs))=cs.map .d:=rfl
theorem ac2 {k:IntKind}{n:Int}:PV.cells (.d (.int k n))=[.d (.int k n)]:=rfl
theorem aav {b:Bool}:PV.cells (.d (.bool b))=[.d (.bool b)]:=rfl
theorem Zb {ex:Bool}{xs:List DV}:PV.cells (.d (.slice ex xs))=[.d (.slice ex xs)]:=rfl
theorem ac3 {s:ByteArray}:PV.cells (.d (.str s))=[.d (.str s)]:=rfl
theorem OD {cs:List DV}:DV.cells (.agg cs)=cs:=rfl
theorem ny {k:IntKind}{n:Int}:DV.cells (.int k n)=[.int k n]:=rfl
theorem aiA {x:DV}:PV.vw (.d x)=false:=rfl
theorem aiV:bH=⟨[],[],[]⟩:=rfl
def Zx (c:Option (Option (List PV)))(agg:Bool)(n off:Nat)(K:PV→Prop):Prop:=match c with|some (some cs)=>off+n≤cs.length∧K (ld agg n off cs)| _=>False
def oL (c:Option (Option (List PV)))(b n off:Nat)(v:PV)(M:Mem)(K:Mem→Prop):Prop:=match c with
 |some (some cs)=>b∉M.fz∧v.cells.length=n∧v.cells.all PV.one=true∧off+n≤cs.length∧K ⟨M.boxes.set b (some (splice cs off v.cells)),M.fz,M.aA⟩
 | _=>False
def lenRow (c:Option (Option Arr))(ver skip:Nat)(K:Int→Prop):Prop:=match c with|some (some A)=>A.ver=ver∧K ((A.elems.length - skip:Nat):Int)| _=>False
def adG (c:Option (Option Arr))(sz k ver skip:Nat)(n:Int)(K:PV→Prop):Prop:=match c with|some (some A)=>A.ver=ver∧A.sz=sz∧0≤n∧skip+n.toNat<A.elems.length∧K (.jX k ver (skip+n.toNat) 0)| _=>False
def loadRow (c:Option (Option Arr))(agg:Bool)(n ver i off:Nat)(K:PV→Prop):Prop:=match c with
 |some (some A)=>A.ver=ver∧off+n≤(A.elems.getD i default).cells.length∧K (ldD agg n off (A.elems.getD i default).cells)| _=>False
def adx (c:Option (Option Arr))(k ver i o:Nat)(K:PV→Prop):Prop:=match c with|some (some A)=>A.ver=ver∧K (.jX k ver i o)| _=>False
def appRow (c:Option (Option Arr))(sz:Nat)(st1:Bool)(k ver skip:Nat)(ys:List DV)(M:Mem)(K:PV→Mem→Prop):Prop:=match c with
 |some (some A)=>A.ver=ver∧A.sz=sz∧A.st≠2∧A.elems.length+ys.length≤1073741824∧K (.tsl k (ver+1) 0) ⟨M.boxes,M.fz,M.aA.set k (some ⟨sz,A.elems.drop skip++ys,ver+1,bif st1 then 1 else A.st⟩)⟩
 | _=>False
variable {bs:List (Option (List PV))}{fz:List Nat}{as:List (Option Arr)}
theorem ak2 {agg:Bool}{n b off:Nat}{K:PV→Prop}:bQ agg n (.ptr b off) ⟨bs,fz,as⟩ K=Zx bs[b]? agg n off K:=by
 simp only[bQ,Zx,Mem.box]
 rcases bs[b]? with _| _|cs<;>simp
theorem agC {agg:Bool}{n off:Nat}{cs:List PV}{K:PV→Prop}:Zx (some (some cs)) agg n off K=(off+n≤cs.length∧K (ld agg n off cs)):=propext ⟨id,id⟩
theorem ajE {n b off:Nat}{v:PV}{K:Mem→Prop}:jI n (.ptr b off) v ⟨bs,fz,as⟩ K=oL bs[b]? b n off v ⟨bs,fz,as⟩ K:=by
 simp only[jI,oL,Mem.box]
 rcases bs[b]? with _| _|cs<;>simp
theorem aes {b n off:Nat}{v:PV}{cs:List PV}{K:Mem→Prop}:oL (some (some cs)) b n off v ⟨bs,fz,as⟩ K=
  (b∉fz∧v.cells.length=n∧v.cells.all PV.one=true∧off+n≤cs.length∧K ⟨bs.set b (some (splice cs off v.cells)),fz,as⟩):=propext ⟨id,id⟩
theorem abX {k ver:Nat}:(⟨bs,fz,as⟩:Mem).row k ver=match as[k]? with|some (some A)=>if A.ver=ver then some A else none| _=>none:=rfl
theorem anu {k ver skip:Nat}{K:Int→Prop}:vM (.tsl k ver skip) ⟨bs,fz,as⟩ K=lenRow as[k]? ver skip K:=by
 simp only[vM,lenRow,abX]
 rcases as[k]? with _| _|A
 ·simp
 ·simp
 ·by_cases h:A.ver=ver<;>simp[h]
theorem aiO {ver skip:Nat}{sz v st:Nat}{xs:List DV}{K:Int→Prop}:lenRow (some (some ⟨sz,xs,v,st⟩)) ver skip K=(v=ver∧K ((xs.length - skip:Nat):Int)):=propext ⟨id,id⟩
theorem akJ {sz k ver skip:Nat}{kk:IntKind}{n:Int}{K:PV→Prop}:xY sz (.tsl k ver skip) (.d (.int kk n)) ⟨bs,fz,as⟩ K=adG as[k]? sz k ver skip n K:=by
 simp only[xY,adG,abX]
 rcases as[k]? with _| _|A
 ·simp
 ·simp
 ·by_cases h:A.ver=ver<;>simp[h]
theorem aiy {sz k ver skip:Nat}{n:Int}{sz' v st:Nat}{xs:List DV}{K:PV→Prop}:adG (some (some ⟨sz',xs,v,st⟩)) sz k ver skip n K=(v=ver∧sz'=sz∧0≤n∧skip+n.toNat<xs.length∧K (.jX k ver (skip+n.toNat) 0)):=propext ⟨id,id⟩
theorem ak0 {agg:Bool}{n k ver i off:Nat}{K:PV→Prop}:bQ agg n (.jX k ver i off) ⟨bs,fz,as⟩ K=loadRow as[k]? agg n ver i off K:=by
 simp only[bQ,loadRow,abX]
 rcases as[k]? with _| _|A
 ·simp
 ·simp
 ·by_cases h:A.ver=ver<;>simp[h]
theorem agE {agg:Bool}{n ver i off sz v st:Nat}{xs:List DV}{K:PV→Prop}:loadRow (some (some ⟨sz,xs,v,st⟩)) agg n ver i off K=(v=ver∧off+n≤(xs.getD i default).cells.length∧K (ldD agg n off (xs.getD i default).cells)):=propext ⟨id,id⟩
theorem amO {off k ver i o:Nat}{K:PV→Prop}:nO off (.jX k ver i o) ⟨bs,fz,as⟩ K=adx as[k]? k ver i (o+off) K:=by
 simp only[nO,adx,abX]
 rcases as[k]? with _| _|A
 ·simp
 ·simp
 ·by_cases h:A.ver=ver<;>simp[h]
theorem aif {k ver i o sz v st:Nat}{xs:List DV}{K:PV→Prop}:adx (some (some ⟨sz,xs,v,st⟩)) k ver i o K=(v=ver∧K (.jX k ver i o)):=propext ⟨id,id⟩
theorem ame {sz:Nat}{st1 ex:Bool}{xs ys:List DV}{K:PV→Mem→Prop}:mV sz st1 (.d (.slice true xs)) (.d (.slice ex ys)) ⟨bs,fz,as⟩ K=
  (0<sz∧(∀y∈ys,y.fits sz=true)∧(st1=true→ys≠[])∧(∀y∈xs,y.fits sz=true)∧xs.length+ys.length≤1073741824∧K (.tsl as.length 0 0) ⟨bs,fz,as++ [some ⟨sz,xs++ys,0,bif st1 then 1 else 0⟩]⟩):=by
 simp only[mV,EJ,true_and]
theorem amf {sz k ver skip:Nat}{st1 ex:Bool}{ys:List DV}{K:PV→Mem→Prop}:mV sz st1 (.tsl k ver skip) (.d (.slice ex ys)) ⟨bs,fz,as⟩ K=
  (0<sz∧(∀y∈ys,y.fits sz=true)∧(st1=true→ys≠[])∧appRow as[k]? sz st1 k ver skip ys ⟨bs,fz,as⟩ K):=by
 simp only[mV,EJ,appRow,abX]
 rcases as[k]? with _| _|A
 ·simp
 ·simp
 ·by_cases h:A.ver=ver<;>simp[h]
theorem ahx {sz k ver skip:Nat}{st1:Bool}{ys:List DV}{sz' v st:Nat}{xs:List DV}{K:PV→Mem→Prop}:appRow (some (some ⟨sz',xs,v,st⟩)) sz st1 k ver skip ys ⟨bs,fz,as⟩ K=
  (v=ver∧sz'=sz∧st≠2∧xs.length+ys.length≤1073741824∧K (.tsl k (ver+1) 0) ⟨bs,fz,as.set k (some ⟨sz,xs.drop skip++ys,ver+1,bif st1 then 1 else st⟩)⟩):=propext ⟨id,id⟩
def XJ (v:PV)(t:Nat)(ts:List Nat)(K:St→Prop)(env:List (Nat×PV))(M:Mem):Prop:=match datum M v with|some d=>zX ts K ⟨(t, .d d)::env,M.frz [v]⟩|none=>False
def an7 (v:PV)(t:Nat)(ts:List Nat)(K:St→Prop)(env:List (Nat×PV))(M:Mem):Prop:=XJ v t ts K env M
def amQ (c:Option (Option (List PV)))(b off t:Nat)(ts:List Nat)(K:St→Prop)(env:List (Nat×PV))(M:Mem):Prop:=match c with
 |some (some cs)=>match je cs with|some ds=>zX ts K ⟨(t, .d (.aT (ds.drop off)))::env,⟨M.boxes,b::M.fz,M.aA⟩⟩|none=>an7 (.ptr b off) t ts K env M
 | _=>False
theorem akA {K:St→Prop}{t:Nat}{ts:List Nat}{env:List (Nat×PV)}{m:Mem}:zX (t::ts) K ⟨env,m⟩=XJ (look env t) t ts K env m:=rfl
theorem Yf {M:Mem}:∀{ds:List DV},bW M (ds.map .d)=some ds
 | []=>rfl
 |d::ds=>by simp only[List.map_cons,bW,eU,Yf]
theorem amS {K:St→Prop}{b off t:Nat}{ts:List Nat}{env:List (Nat×PV)}:XJ (.ptr b off) t ts K env ⟨bs,fz,as⟩=amQ bs[b]? b off t ts K env ⟨bs,fz,as⟩:=by
 unfold amQ
 cases hb:bs[b]? with
 |none=>simp[XJ,datum,Mem.box,hb]
 |some o=>
  cases o with
  |none=>simp[XJ,datum,Mem.box,hb]
  |some cs=>
   simp only
   cases hd:je cs with
   |none=>rfl
   |some ds=>
    have:=MG hd
    subst this
    have h2:(ds.map PV.d).flatMap xJ=[]:=by
     clear hb hd;induction ds with
     |nil=>rfl
     |cons d ds ih=>simp[xJ]
    have h3:(ds.map PV.d).flatMap xK=[]:=by
     clear hb hd h2;induction ds with
     |nil=>rfl
     |cons d ds ih=>simp[xK]
    simp only[h3,XJ,datum,Mem.box,hb,Yf,Option.map_some,Mem.frz,List.flatMap_cons,List.flatMap_nil,oJ,oI,h2,List.append_nil,List.cons_append,List.nil_append,Qa,List.foldl_nil]
theorem amR {K:St→Prop}{b off t:Nat}{ts:List Nat}{env:List (Nat×PV)}{cs:List PV}:amQ (some (some cs)) b off t ts K env ⟨bs,fz,as⟩=(match je cs with|some ds=>zX ts K ⟨(t, .d (.aT (ds.drop off)))::env,⟨bs,b::fz,as⟩⟩|none=>an7 (.ptr b off) t ts K env ⟨bs,fz,as⟩):=rfl
theorem ahu:je []=some []:=rfl
theorem aft {x:DV}{l:List PV}:je (.d x::l)=(je l).map (x::·):=rfl
theorem au {base:Nat}{KP:DV→Mem→Prop}{f:FuncId}{args:List PV}{ds ds':List DV}{x:DV}(h1:je args=some ds)(h2:ds.map DV.strip=ds')(hp:Pure C f ds' (.d x) [])(hK:K (.d x) M):aj C base (.ak f) args M K KP:=⟨ds,h1,x,h2▸hp,hK⟩
theorem aoQ {x:DV}:PV.one (.d x)=x.one:=rfl
theorem ak9 {k:IntKind}{n:Int}:DV.one (.int k n)=true:=rfl
theorem ai3 {b:Bool}:DV.one (.bool b)=true:=rfl
theorem alb {s:ByteArray}:DV.one (.str s)=true:=rfl
theorem agL {ex:Bool}{xs:List DV}:DV.one (.slice ex xs)=true:=rfl
theorem ala {r:Option (List (DV×DV))}:DV.one (.map r)=true:=rfl
end
inductive Ty where
 |int (k:IntKind)
 |bool
 |str
 |slice (e:Ty)
 |struct (fs:List Ty)
mutual
def Ty.size:Ty→Nat
 | .struct fs=>Rk fs
 | _=>1
def Rk:List Ty→Nat
 | []=>0
 |t::ts=>t.size+Rk ts
end
def Ty.wV:Ty→Bool
 | .int .i64=>true
 | .struct (.int .i64::_)=>true
 | _=>false
def Ty.isStruct:Ty→Bool
 | .struct _=>true
 | _=>false
def Shp (e:Ty)(x:DV):Prop:=(e.isStruct=true→∃cs,x= .agg cs)∧(e.isStruct=false→x.cells=[x])
inductive Has:Ty→List DV→Prop
 |int {k:IntKind} {n:Int} (h:(Lit.int k n).wf=true):Has (.int k) [.int k n]
 |bool {b:Bool}:Has .bool [.bool b]
 |str {s:ByteArray} (h:s.size≤maxLen):Has .str [.str s]
 |slice {e:Ty} {xs:List DV} (h:∀x∈xs,Has e x.cells) (h':∀x∈xs,Shp e x):Has (.slice e) [.slice false xs]
 |nil:Has (.struct []) []
 |cons {t:Ty} {ts:List Ty} {ds es:List DV} (h:Has t ds) (h':Has (.struct ts) es):Has (.struct (t::ts)) (ds++es)
mutual
def FY (P:Program):Ty→TypeId→Bool
 | .int k,t=>(match P.underlying t with|some (.int k')=>decide (k'=k)| _=>false)&&P.cellsOf t==1
 | .bool,t=>(match P.underlying t with|some .bool=>true| _=>false)&&P.cellsOf t==1
 | .str,t=>(match P.underlying t with|some .string=>true| _=>false)&&P.cellsOf t==1
 | .slice e,t=>(match P.underlying t with|some (.slice u)=>FY P e u&&e.wV| _=>false)&&P.cellsOf t==1
 | .struct fs,t=>(match P.underlying t with|some (.struct gs)=>YB P fs gs.toList 0| _=>false)&&P.cellsOf t==Rk fs
def YB (P:Program):List Ty→List Field→Nat→Bool
 | [],[],_=>true
 |t::ts,g::gs,off=>FY P t g.type&&decide (g.offset=off)&&YB P ts gs (off+t.size)
 | _,_,_=>false
end
theorem YA {P:Program}:∀{T:Ty} {t:TypeId},FY P T t=true→P.cellsOf t=T.size
 | .int k,t,h=>by simp[FY]at h;simp[Ty.size,h.2]
 | .bool,t,h=>by simp[FY]at h;simp[Ty.size,h.2]
 | .str,t,h=>by simp[FY]at h;simp[Ty.size,h.2]
 | .slice e,t,h=>by simp[FY]at h;simp[Ty.size,h.2]
 | .struct fs,t,h=>by simp[FY]at h;simp[Ty.size,h.2]
theorem Zo:∀{e:Ty},e.wV=true→0<e.size
 | .int k,_=>by simp[Ty.size]
 | .struct (t::ts),h=>by
  cases t with
  |int k=>simp only[Ty.size,Rk];omega
  | _=>simp[Ty.wV]at h
 | .bool,_=>by simp[Ty.size]
 | .str,_=>by simp[Ty.size]
 | .slice _,_=>by simp[Ty.size]
 | .struct [],h=>by simp[Ty.wV]at h
theorem aaU:∀{T:Ty} {ds:List DV},Has T ds→ds.length=T.size:=by
 intro T ds h
 induction h with
 |cons h h' ih ih'=>simp only[List.length_append,Ty.size,Rk]at*;omega
 | _=>simp[Ty.size,Rk]
theorem Qb {e:Ty}{ds:List DV}(he:e.wV=true)(h:Has e ds):∃n,ds[0]?=some (.int .i64 n):=by
 cases h with
 |int h=>rename_i k n;cases k<;>simp[Ty.wV]at he;exact⟨n,rfl⟩
 |cons h h'=>
  rename_i t ts ds es
  cases h with
  |int h=>rename_i k n;cases k<;>simp[Ty.wV]at he;exact⟨n,rfl⟩
  | _=>simp[Ty.wV]at he
 | _=>simp[Ty.wV]at he
section
variable {H:Type}{enc:TypeId×Value→H}{P:Program}{w:World}{base:Nat}{spare:Nat→Bool}{held:Bool}{O:Nat→Prop}
theorem cells_at {a:Addr}{n:Nat}{cs:List Value}(h:w.cells? base a n=some cs)(hn:0<n):∃c T fz,a.spot=none∧w.heap[a.block]?=some (.cells c T fz)∧(c.toList.drop a.off).take n=cs:=by
 obtain⟨_,hl,hg⟩:=World.cells?_some h
 have h0:=hg 0 hn
 have hc0:cs[0]?=some cs[0]:=List.getElem?_eq_getElem (by omega)
 rw[hc0]at h0
 obtain⟨blk,off,spot⟩:=a
 have hsp:spot=none:=by
  cases spot with
  |none=>rfl
  |some q=>simp only[World.cell?,Addr.add]at h0;split at h0<;>simp at h0
 subst hsp
 simp only[Addr.add_lit]at hg h0
 cases hb:w.heap[blk]? with
 |none=>simp[World.cell?,hb]at h0
 |some o=>
  cases o with
  |cells c T fz=>
   refine⟨c,T,fz,rfl,rfl,?_⟩
   have hg':∀i,i<n→c[off+i]?=cs[i]?:=fun i hi=>by
    have:=hg i hi
    rwa [cell_of_row w blk (off+i) c T fz hb]at this
   apply List.ext_getElem?
   intro i
   by_cases hi:i<n
   ·rw[List.getElem?_take,if_pos hi,List.getElem?_drop,Array.getElem?_toList]
    exact hg' i hi
   ·rw[List.getElem?_take,if_neg hi,List.getElem?_eq_none (by omega)]
  | _=>simp[World.cell?,hb]at h0
theorem pieces {c:Array Value}{off sz:Nat}{e:Ty}(hsz:e.size=sz):∀(k:Nat),(∀i,i<k→∃x:DV,Has e x.cells∧Shp e x∧aQ w O ((c.toList.drop (off+i*sz)).take sz) x.cells)→
  ∃xs:List DV,xs.length=k∧(∀x∈xs,Has e x.cells)∧(∀x∈xs,Shp e x)∧aQ w O ((c.toList.drop off).take (k*sz)) (flat xs)
 |0,_=>⟨[],rfl,fun x hx=>by simp at hx,fun x hx=>by simp at hx,by simpa[flat]using .nil⟩
 |k+1,h=>by
  obtain⟨xs,h1,h2,h3,h4⟩:=pieces hsz k fun i hi=>h i (by omega)
  obtain⟨x,g1,g2,g3⟩:=h k (by omega)
  refine⟨xs++ [x],by simp[h1],?_,?_,?_⟩
  ·intro y hy
   rcases List.mem_append.1 hy with hy|hy
   ·exact h2 y hy
   ·simp at hy;subst hy;exact g1
  ·intro y hy
   rcases List.mem_append.1 hy with hy|hy
   ·exact h3 y hy
   ·simp at hy;subst hy;exact g2
  ·have e1:(c.toList.drop off).take ((k+1)*sz)=(c.toList.drop off).take (k*sz)++(c.toList.drop (off+k*sz)).take sz:=by
    rw[Nat.add_mul,Nat.one_mul,List.take_add,List.drop_drop]
   rw[e1,zW]
   refine h4.append ?_
   simpa[flat]using g3
mutual
theorem ZP (hO:∀b,O b→∀c T fz,w.heap[b]?=some (.cells c T fz)→∀(i:Nat) (n:Int),c[i]?≠some (.int .i64 n)):∀(T:Ty) (fuel:Nat) (t:TypeId) (cs:List Value) (x:DataW H×List MemPlace),FY P T t=true→
  DataW.trod enc P w base spare held fuel t cs=some x→∃ds,Has T ds∧aQ w O cs ds
 | .int k,fuel,t,cs,x,hok,h=>by
  simp only[FY,Bool.and_eq_true]at hok
  obtain⟨hok,_⟩:=hok
  split at hok
  ·rename_i k' hk
   simp only[decide_eq_true_eq]at hok
   subst hok
   cases fuel with
   |zero=>simp[DataW.trod]at h
   |succ fuel=>
    unfold DataW.trod at h
    rw[hk]at h
    split at h<;>simp_all
    obtain⟨⟨rfl,hw⟩,_⟩:=h
    exact⟨_, .int hw, .cons (.int _ _) .nil⟩
  ·cases hok
 | .bool,fuel,t,cs,x,hok,h=>by
  simp only[FY,Bool.and_eq_true]at hok
  obtain⟨hok,_⟩:=hok
  split at hok
  ·rename_i hk
   cases fuel with
   |zero=>simp[DataW.trod]at h
   |succ fuel=>
    unfold DataW.trod at h
    rw[hk]at h
    split at h<;>simp_all
    exact⟨_, .bool, .cons (.bool _) .nil⟩
  ·cases hok
 | .str,fuel,t,cs,x,hok,h=>by
  simp only[FY,Bool.and_eq_true]at hok
  obtain⟨hok,_⟩:=hok
  split at hok
  ·rename_i hk
   cases fuel with
   |zero=>simp[DataW.trod]at h
   |succ fuel=>
    unfold DataW.trod at h
    rw[hk]at h
    split at h<;>simp_all
    exact⟨_, .str h.1, .cons (.str _) .nil⟩
  ·cases hok
 | .slice e,fuel,t,cs,x,hok,h=>by
  simp only[FY,Bool.and_eq_true]at hok
  obtain⟨hok,_⟩:=hok
  split at hok
  ·rename_i u hk
   simp only[Bool.and_eq_true]at hok
   obtain⟨hu,hint⟩:=hok
   have hsz:=YA hu
   have hpos:=Zo hint
   rcases Go.Deep.open_slice hk h with⟨rfl,_⟩|⟨a,len,cap,m,n,D,Pl,rfl,_,hcap,_,hm,_,hel⟩
   ·exact⟨_, .slice (xs:=[]) (fun x hx=>by simp at hx) (fun x hx=>by simp at hx), .cons (.empty (fun hh=>by cases hh)) .nil⟩
   ·have hlm:len≤m:=by rw[hm];split<;>omega
    rw[hsz]at hel
    have hpc:∀i,i<len→∃cs',w.cells? base (a.add (i*e.size)) e.size=some cs'∧∃ds,Has e ds∧aQ w O cs' ds:=by
     intro i hi
     obtain⟨cs',hc1,hc2⟩:=hel i (by omega)
     exact⟨cs',hc1,ZP hO e n _ cs' _ hu hc2⟩
    by_cases h0:len=0
    ·subst h0
     exact⟨_, .slice (xs:=[]) (fun x hx=>by simp at hx) (fun x hx=>by simp at hx), .cons (.empty (fun hh=>by cases hh)) .nil⟩
    ·obtain⟨cs0,hc0,ds0,hd0,hr0⟩:=hpc 0 (by omega)
     rw[Nat.zero_mul]at hc0
     obtain⟨c,T,fz,hsp,hb,htk⟩:=cells_at hc0 hpos
     obtain⟨blk,off,spot⟩:=a
     simp only[Addr.add,if_true]at hsp hb htk
     subst hsp
     have hxs:=pieces (w:=w) (O:=O) (c:=c) (off:=off) (sz:=e.size) (e:=e) rfl len (fun i hi=>by
      obtain⟨cs',g1,ds,g2,g3⟩:=hpc i hi
      obtain⟨c',T',fz',_,hb',anm⟩:=cells_at g1 hpos
      simp only[Addr.add_lit]at hb' anm
      rw[hb]at hb'
      cases hb'
      cases hst:e.isStruct with
      |true=>
       refine⟨.agg ds,g2,⟨fun _=>⟨ds,rfl⟩,fun hh=>by rw[hst]at hh;cases hh⟩,?_⟩
       rw[anm];exact g3
      |false=>
       have hone:e.size=1:=by cases e<;>simp_all[Ty.size,Ty.isStruct]
       have hl:=aaU g2
       rw[hone]at hl
       obtain⟨d,rfl⟩:=List.length_eq_one_iff.1 hl
       have hdc:d.cells=[d]:=by
        obtain⟨n,hn⟩:=Qb hint g2
        simp at hn;subst hn;rfl
       refine⟨d,(by rw[hdc];exact g2),⟨fun hh=>(by rw[hst]at hh;cases hh),fun _=>hdc⟩,?_⟩
       rw[anm,hdc];exact g3)
     obtain⟨xs,x1,x2,x3,x4⟩:=hxs
     refine⟨_, .slice x2 x3, .cons (.slice (sz:=e.size) hb ?_ x1 (fun x hx=>aaU (x2 x hx)) hcap (fun hh=>by cases hh) x4) .nil⟩
     intro hOb
     obtain⟨n,hn⟩:=Qb hint hd0
     obtain⟨v,hv,hvr⟩:=hr0.get' 0 _ hn
     have hvi:=hvr.fA
     subst hvi
     have hcell:c[off]?=some (.int .i64 n):=by
      have h5:((c.toList.drop off).take e.size)[0]?=some (.int .i64 n):=by rw[htk];exact hv
      rw[List.getElem?_take,if_pos hpos,List.getElem?_drop,Array.getElem?_toList]at h5
      simpa using h5
     exact hO blk hOb c T fz hb off n hcell
  ·cases hok
 | .struct fs,fuel,t,cs,x,hok,h=>by
  simp only[FY,Bool.and_eq_true,beq_iff_eq]at hok
  obtain⟨hok,hsize⟩:=hok
  split at hok
  ·rename_i gs hk
   cases fuel with
   |zero=>simp[DataW.trod]at h
   |succ fuel=>
    unfold DataW.trod at h
    rw[hk]at h
    simp only at h
    split at h
    ·rename_i hlen
     rw[Option.map_eq_some_iff]at h
     obtain⟨ys,hys,_⟩:=h
     obtain⟨ds,h1,h2⟩:=abW hO fs fuel gs.toList 0 cs ys hok hys
     refine⟨ds,h1,?_⟩
     rw[List.drop_zero,List.take_of_length_le (by rw[hlen,hsize];exact Nat.le_refl _)]at h2
     exact h2
    ·cases h
  ·cases hok
theorem abW (hO:∀b,O b→∀c T fz,w.heap[b]?=some (.cells c T fz)→∀(i:Nat) (n:Int),c[i]?≠some (.int .i64 n)):∀(fs:List Ty) (fuel:Nat) (gs:List Field) (off:Nat) (cs:List Value) (ys:List (DataW H×List MemPlace)),YB P fs gs off=true→
  (gs.mapM fun f=>DataW.trod enc P w base spare held fuel f.type ((cs.drop f.offset).take (P.cellsOf f.type)))=some ys→∃ds,Has (.struct fs) ds∧aQ w O ((cs.drop off).take (Rk fs)) ds
 | [],fuel,[],off,cs,ys,_,_=>⟨[], .nil,by simpa[Rk]using .nil⟩
 |T::fs,fuel,g::gs,off,cs,ys,hok,h=>by
  simp only[YB,Bool.and_eq_true,decide_eq_true_eq]at hok
  obtain⟨⟨h1,h2⟩,h3⟩:=hok
  simp only[List.mapM_cons,Option.bind_eq_bind,Option.bind_eq_some_iff,Option.pure_def,Option.some.injEq]at h
  obtain⟨y,g1,zs,g2,_⟩:=h
  rw[h2,YA h1]at g1
  obtain⟨ds,q1,q2⟩:=ZP hO T fuel g.type _ y h1 g1
  obtain⟨es,r1,r2⟩:=abW hO fs fuel gs (off+T.size) cs zs h3 g2
  refine⟨ds++es, .cons q1 r1,?_⟩
  simp only[Rk]
  rw[List.take_add,List.drop_drop]
  exact q2.append r2
 | [],fuel,_::_,_,_,_,hok,_=>by simp[YB]at hok
 | _::_,fuel,[],_,_,_,hok,_=>by simp[YB]at hok
end
end
open Go.ChangeShapes Go.WideShapes Go.RowKit
def afq (T:Ty)(d:DV):Prop:=Has T d.cells∧Shp T d
def Ii:List Ty→List DV→Prop
 | [],[]=>True
 |T::Ts,d::ds=>afq T d∧Ii Ts ds
 | _,_=>False
def IV (P:Program):List Ty→List TypeId→Bool
 | [],[]=>true
 |T::Ts,t::ts=>FY P T t&&IV P Ts ts
 | _,_=>false
theorem akF {T:Ty}{ds:List DV}(h:Has T ds)(hs:T.isStruct=false):∃x,ds=[x]∧x.cells=[x]:=by
 cases h with
 |nil=>cases hs
 |cons=>cases hs
 | _=>exact⟨_,rfl,rfl⟩
section
variable {H:Type}{enc:TypeId×Value→H}{P:Program}{w:World}{base:Nat}{spare:Nat→Bool}{held:Bool}{O:Nat→Prop}
theorem ajh (hO:∀b,O b→∀c T fz,w.heap[b]?=some (.cells c T fz)→∀(i:Nat) (n:Int),c[i]?≠some (.int .i64 n)){T:Ty}{t:TypeId}{v:Value}{d:DataW H}{ps:List MemPlace}{r:Reach}{b0:Nat}
  (hok:FY P T t=true)(hval:Value.okWide P w r b0 t v)(h:DataW.Trod enc P w base spare held t v d ps):∃x,afq T x∧bf w O v x:=by
 obtain⟨fuel,hf⟩:=h
 obtain⟨ds,h1,h2⟩:=ZP hO T fuel t _ _ hok hf
 have one:T.isStruct=false→(∀cs,v≠ .agg cs)→∃x,afq T x∧bf w O v x:=by
  intro hs hv
  obtain⟨x,rfl,hx⟩:=akF h1 hs
  have hc:v.cells= #[v]:=by cases v<;>first|rfl|(exact absurd rfl (hv _))
  rw[hc]at h2
  cases h2 with
  |cons g1 _=>
   exact⟨x,⟨by rw[hx];exact h1,⟨fun hh=>(by rw[hs]at hh;cases hh),fun _=>hx⟩⟩,g1⟩
 cases T with
 |int k=>
  simp only[FY,Bool.and_eq_true]at hok
  split at hok
  ·rename_i k' hk
   obtain⟨n,rfl⟩:=okWide_int hk hval
   exact one rfl fun cs hh=>by cases hh
  ·cases hok.1
 |bool=>
  simp only[FY,Bool.and_eq_true]at hok
  split at hok
  ·rename_i hk
   obtain⟨n,rfl⟩:=okWide_bool hk hval
   exact one rfl fun cs hh=>by cases hh
  ·cases hok.1
 |str=>
  simp only[FY,Bool.and_eq_true]at hok
  split at hok
  ·rename_i hk
   obtain⟨n,rfl⟩:=okWide_string hk hval
   exact one rfl fun cs hh=>by cases hh
  ·cases hok.1
 |slice e=>
  simp only[FY,Bool.and_eq_true]at hok
  split at hok
  ·rename_i u hk
   obtain⟨a,len,cap,rfl⟩:=okWide_slice hk hval
   exact one rfl fun cs hh=>by cases hh
  ·cases hok.1
 |struct fs=>
  simp only[FY,Bool.and_eq_true]at hok
  split at hok
  ·rename_i gs hk
   obtain⟨cs,rfl,_⟩:=okWide_struct hk hval
   exact⟨.agg ds,⟨h1,⟨fun _=>⟨ds,rfl⟩,fun hh=>(by cases hh)⟩⟩, .agg h2⟩
  ·cases hok.1
theorem abV (hO:∀b,O b→∀c T fz,w.heap[b]?=some (.cells c T fz)→∀(i:Nat) (n:Int),c[i]?≠some (.int .i64 n)){r:Reach}{b0:Nat}:∀{Ts:List Ty} {ts:List TypeId} {vs:List Value} {ds:List (DataW H)} {ps:List MemPlace},
  IV P Ts ts=true→(∀(j:Nat) t v,ts[j]?=some t→vs[j]?=some v→Value.okWide P w r b0 t v)→DataW.TrodAll enc P w base spare held ts vs ds ps→∃xs,Ii Ts xs∧aQ w O vs xs
 | [],[],[],[],_,_,_,_=>⟨[],trivial, .nil⟩
 |T::Ts,t::ts,v::vs,d::ds,ps,hok,hv,h=>by
  simp only[IV,Bool.and_eq_true]at hok
  obtain⟨p,q,h1,h2,_⟩:=h
  obtain⟨x,g1,g2⟩:=ajh hO hok.1 (hv 0 t v rfl rfl) h1
  obtain⟨xs,g3,g4⟩:=abV hO hok.2 (fun j t' v' ht hv'=>hv (j+1) t' v' (by simpa using ht) (by simpa using hv')) h2
  exact⟨x::xs,⟨g1,g3⟩, .cons g2 g4⟩
 | [],_::_,_,_,_,hok,_,_=>by simp[IV]at hok
 | _::_,[],_,_,_,hok,_,_=>by simp[IV]at hok
 | [],[],_::_,_,_,_,_,h=>by cases h
 | [],[],[],_::_,_,_,_,h=>by cases h
 | _::_,_::_,[],_,_,_,_,h=>by cases h
 | _::_,_::_,_::_,[],_,_,_,h=>by cases h
theorem abe {w':World}(h:Later w w'):Below w.heap.size w w':=⟨h.os,h.tape,h.output,h.size,h.keep⟩
theorem agA {C:Ctx}{f:FuncId}{Ts:List Ty}{ts:List TypeId}{args:Array Value}{ds:List (DataW H)}{ps:List MemPlace}{r:Reach}{b0:Nat}
  (hP:C.P=P)(hG:C.G w)(hlow:∀b,C.low b→b<w.heap.size∧∀c T fz,w.heap[b]?=some (.cells c T fz)→∀(i:Nat) (n:Int),c[i]?≠some (.int .i64 n))
  (hok:IV P Ts ts=true)(hv:∀(j:Nat) t v,ts[j]?=some t→args.toList[j]?=some v→Value.okWide P w r b0 t v)(h:DataW.TrodAll enc P w base spare held ts args.toList ds ps)
  (adE:∀xs,Ii Ts xs→Pure C f xs (.d (.bool true)) []):Calls P f args w fun e w'=>e= .returned (.bool true)∧Below w.heap.size w w':=by
 obtain⟨xs,h1,h2⟩:=abV (O:=C.low) (fun b hb=>(hlow b hb).2) hok hv h
 have:=adE xs h1 C.low w args.toList hG (fun b hb=>hb) (fun b hb=>(hlow b hb).1) h2
 rw[hP,Array.toArray_toList]at this
 refine Calls.mono this fun e w' he=> ?_
 obtain⟨v,E',rfl,hS,hF,hr⟩:=he
 have hvb:=hr.toD.pV
 subst hvb
 exact⟨rfl,abe hF.MR⟩
theorem Ox {w':World}(hl:laidOutB P=true)(hb:Below w.heap.size w w'):∀{ts:List TypeId} {vs:List Value} {ds:List (DataW H)} {ps:List MemPlace},(∀t∈ts,P.readableRec t=true∧t<P.types.size)→
  DataW.TrodAll enc P w 0 (fun _=>true) true ts vs ds ps→(∀x∈ps,x.block<w.heap.size)→DataW.TrodAll enc P w' 0 (fun b=>decide (b<w.heap.size)) true ts vs ds ps
 | [],[],[],_,_,h,_=>h
 |t::ts,v::vs,d::ds,ps,ht,h,hlt=>by
  obtain⟨p,q,h1,h2,rfl⟩:=h
  obtain⟨a,b⟩:=ht t (by simp)
  exact⟨p,q,Below.trod hl a b h1 hb (fun x hx=>hlt x (by simp[hx])),Ox hl hb (fun t' ht'=>ht t' (by simp[ht'])) h2 (fun x hx=>hlt x (by simp[hx])),rfl⟩
 | [],_::_,_,_,_,h,_=>by cases h
 | [],[],_::_,_,_,h,_=>by cases h
 | _::_,[],_,_,_,h,_=>by cases h
 | _::_,_::_,[],_,_,h,_=>by cases h
theorem aiK {f:Func}{s:ChangeSpec}{apart fresh handsOn:Bool}{w':World}{args:Array Value}{ds:List (DataW H)}{before:List MemPlace}{tb:TypeId}(hl:laidOutB P=true)(hvars:s.vars=[])
  (hW:DataW.Whole enc P f.params.toList s.vars apart w args.toList ds [] before)(hres:f.resultTypes= #[tb])(htb:P.underlying tb=some .bool)(hts:∀t∈f.params.toList,P.readableRec t=true∧t<P.types.size)
  (hfn:s.fn H (ds++ [])={results:=[.lit (.bool true)],args:=ds})(hb:Below w.heap.size w w'):s.post enc P f apart fresh handsOn false w args (.bool true) w':=by
 have hW':=hW
 obtain⟨p,q,hA,hV,rfl,_,_⟩:=hW
 have hq:q=[]:=by rw[hvars]at hV;exact hV
 subst hq
 refine⟨ds,[],p++ [],[],p,[],hW',?_,?_,?_,hb.frame _,fun h=>by cases h⟩
 ·rw[hfn,hres]
  exact trodAll_mk1 (shut_bool htb true)
 ·rw[hfn]
  exact Ox hl hb hts hA fun x hx=>hW'.lt x (by simp[hx])
 ·rw[hfn,hvars];rfl
end
theorem abh {n m:Nat}:∀{env:List (Nat×PV)},(env.all fun p=>p.2.upto n m)=true→∀t,(look env t).upto n m=true
 | [],_,t=>by simp[look,PV.upto]
 |(k,v)::l,h,t=>by
  simp only[List.all_cons,Bool.and_eq_true]at h
  simp only[look]
  cases hk:(k==t)with
  |true=>simpa using h.1
  |false=>simpa using abh h.2 t
theorem Weak.take {nb na n m:Nat}{env:List (Nat×PV)}{bs:List (Option (List PV))}{fz:List Nat}{as:List (Option Arr)}(h1:nb≤n)(h2:na≤m)(h3:(env.all fun p=>p.2.upto n m)=true)
  (h4:((bs.take n).all fun c=>(c.getD []).all fun p=>p.upto n m)=true):Weak nb na ⟨env,⟨bs,fz,as⟩⟩ ⟨env,⟨bs.take n,fz.filter (fun b=>decide (b<n)),as.take m⟩⟩:=by
 refine .inr ⟨n,m,h1,h2,rfl,fun t=> .inr ⟨rfl,abh h3 t⟩,fun cs hcs c hc=> ?_⟩
 simp only[List.all_eq_true]at h4
 exact h4 cs hcs c hc
theorem Weak.same {nb na:Nat}{env:List (Nat×PV)}{bs:List (Option (List PV))}{fz:List Nat}{as:List (Option Arr)}(h1:nb≤bs.length)(h2:na≤as.length)(h3:(env.all fun p=>p.2.upto bs.length as.length)=true)
  (h4:(bs.all fun c=>(c.getD []).all fun p=>p.upto bs.length as.length)=true):Weak nb na ⟨env,⟨bs,fz,as⟩⟩ ⟨env,⟨bs,fz.filter (fun b=>decide (b<bs.length)),as⟩⟩:=by
 have:=Weak.take (fz:=fz) (as:=as) h1 h2 h3 (by rw[List.take_length];exact h4)
 simpa using this
section
variable {C:Ctx}{base:Nat}{M:Mem}{K:PV→Mem→Prop}{KP:DV→Mem→Prop}
theorem ah7 {sz:Nat}:aj C base (.iO sz [] []) [] M K KP=K (.d (.slice true [])) M:=by
 have:=KE (M:=M) (ds:=[])
 simp only[List.map_nil]at this
 simp only[aj,dw,List.map_nil,yE,this]
theorem mM {sz:Nat}{z x:DV}:aj C base (.iO sz [z] [0]) [.d x] M K KP=(x.strip.cells.length=sz∧K (.d (.slice true [x.strip])) M):=by
 have:=KE (M:=M) (ds:=[x])
 simp only[List.map_cons,List.map_nil]at this
 simp only[aj,dw,datum,List.map_cons,List.map_nil,yE,this,List.length_singleton,Nat.zero_lt_one,and_true]
 by_cases h:x.strip.cells.length=sz
 ·simp[h]
 ·simp[h]
theorem ak4 {bs:List (Option (List PV))}{fz:List Nat}{as:List (Option Arr)}{k s:Nat}{A:Arr}(h:as[k]?=some (some A)):mkRow ⟨bs,fz,as⟩ (k,s)=⟨A.sz,A.elems.drop s,0,A.st⟩:=by simp only[mkRow,h]
theorem FI {bs:List (Option (List PV))}{fz:List Nat}{as:List (Option Arr)}{k ver s:Nat}{A:Arr}(h:as[k]?=some (some A))(hv:A.ver=ver)(hs:s≤A.elems.length){A':Arr}(hA:A'=⟨A.sz,A.elems.drop s,0,A.st⟩):
  ∃L,Fp ⟨bs,fz,as⟩ L∧ren ⟨bs,fz,as⟩ L (.tsl k ver s)= .tsl 0 0 0∧L.map (mkRow ⟨bs,fz,as⟩)=[A']:=by
 refine⟨[(k,s)],⟨fun q hq=> ?_,by simp⟩,?_,?_⟩
 ·simp only[List.mem_singleton]at hq
  subst hq
  simp only[Fj,h]
  simpa using hs
 ·simp[ren,WW,QK,Mem.row,h,hv]
 ·simp only[List.map_cons,List.map_nil,ak4 h,hA]
end
end Go.Am
namespace Go.Tel
open Go.Am
theorem aG {n:Int}(h: -9223372036854775808≤n∧n≤9223372036854775807):IntKind.i64.wrap n=n:=Go.IntWalk.i64_in _ (by omega)
structure Pt where
 x:Int
 y:Int
 deriving DecidableEq,Inhabited
structure Wh where
 Vw:Int
 ajx:Int
 layer:Int
 gX:Int
 deriving DecidableEq,Inhabited
structure Ms where
 a:Int
 b:Int
 deriving DecidableEq,Inhabited
structure Tn where
 num:Int
 den:Int
 deriving DecidableEq,Inhabited
structure Piece where
 w:Int
 h:Int
 pl:Int
 ga:Int
 po:Int
 cs:List Pt
 ws:List Wh
 ms:List Ms
 deriving DecidableEq,Inhabited
def ay (n:Int):DV:= .int .i64 n
def Pt.dv (p:Pt):DV:= .agg [.int .i64 p.x, .int .i64 p.y]
def Wh.dv (p:Wh):DV:= .agg [.int .i64 p.Vw, .int .i64 p.ajx, .int .i64 p.layer, .int .i64 p.gX]
def Ms.dv (p:Ms):DV:= .agg [.int .i64 p.a, .int .i64 p.b]
def Tn.dv (p:Tn):DV:= .agg [.int .i64 p.num, .int .i64 p.den]
def Piece.dv (p:Piece):DV:= .agg [.int .i64 p.w, .int .i64 p.h, .int .i64 p.pl, .int .i64 p.ga, .int .i64 p.po, .slice false (p.cs.map Pt.dv), .slice false (p.ws.map Wh.dv), .slice false (p.ms.map Ms.dv)]
theorem aW {n:Int}:ay n= .int .i64 n:=by rw[ay]
structure Laid where
 p:Piece
 mm:List Ms
 gone:List Int
 deriving Inhabited
def Laid.dv (l:Laid):DV:=
 .agg [.int .i64 l.p.w, .int .i64 l.p.h, .int .i64 l.p.pl, .int .i64 l.p.ga, .int .i64 l.p.po, .slice false (l.p.cs.map Pt.dv), .slice false (l.p.ws.map Wh.dv), .slice false (l.p.ms.map Ms.dv),
  .map (some (l.mm.map fun m=>(m.dv, .bool true))), .slice false (l.gone.map ay)]
theorem getD_map {α:Type}[Inhabited α]{f:α→DV}{l:List α}{i:Nat}(h:i<l.length):(l.map f).getD i default=f (l.getD i default):=by
 rw[List.getD_eq_getElem?_getD,List.getD_eq_getElem?_getD,List.getElem?_map,List.getElem?_eq_getElem h];rfl
theorem drop_cons {α:Type}[Inhabited α]{l:List α}{i:Nat}(h:i<l.length):l.drop i=l.getD i default::l.drop (i+1):=by
 rw[List.drop_eq_getElem_cons h];simp[List.getD,h]
def inR (n l h:Int):Bool:=decide (n≥l)&&decide (n≤h)
def al3 (w h:Int):List Pt→List Pt→Bool
 | _,[]=>true
 |pre,c::cs=>inR c.x 0 w&&inR c.y 0 h&& !pre.contains c&&al3 w h (pre++ [c]) cs
def al1 (n:Int):List Ms→List Ms→Bool
 | _,[]=>true
 |pre,m::ms=>inR m.a 0 (n - 1)&&inR m.b 0 (n - 1)&& !decide (m.a≥m.b)&& !pre.contains m&&al1 n (pre++ [m]) ms
def ap5 (n:Int)(w:Wh):Bool:=inR w.Vw 0 (n - 1)&&inR w.ajx 0 2&&inR w.layer 0 5&&inR w.gX 4 50
def Piece.am8 (p:Piece):Bool:=inR p.w 1 120&&inR p.h 1 120&&inR p.pl 0 4&&inR p.ga 0 4&&inR p.po 0 3
def Piece.anv (p:Piece):Bool:=inR p.cs.length 1 6&& !decide ((p.ws.length:Int)>8)&& !decide ((p.ms.length:Int)>10)
def Piece.ok (p:Piece):Bool:=p.am8&&p.anv&&al3 p.w p.h [] p.cs&&al1 p.ws.length [] p.ms&&p.ws.all (ap5 p.cs.length)
def Piece.wh (p:Piece)(a:Int):Wh:=p.ws.getD a.toNat default
def Piece.pt (p:Piece)(a:Int):Pt:=p.cs.getD (p.wh a).Vw.toNat default
def sq (n:Int):Int:=n*n
def Piece.mesh (p:Piece)(a b:Int):Bool:=p.ms.contains ⟨min a b,max a b⟩
def Piece.far (p:Piece)(a b:Int):Int:=sq ((p.pt a).x - (p.pt b).x)+sq ((p.pt a).y - (p.pt b).y)
def Piece.sum (p:Piece)(a b:Int):Int:=(p.wh a).gX+(p.wh b).gX
def Piece.aeJ (p:Piece)(a b:Int):Bool:=(p.wh a).Vw==(p.wh b).Vw
def Piece.level (p:Piece)(a b:Int):Bool:=(p.wh a).layer==(p.wh b).layer
def Piece.apart (p:Piece)(a b:Int):Bool:=
 p.mesh a b&&(!p.level a b||p.aeJ a b||decide (p.far a b<sq (p.sum a b))||decide (p.far a b>sq (p.sum a b+p.pl)))
def Piece.same (p:Piece)(a b:Int):Bool:=p.aeJ a b&&p.level a b
def Piece.post (p:Piece)(a b:Int):Bool:=decide ((p.wh a).layer≤(p.wh b).layer)&&decide (p.far a b<sq ((p.wh a).gX+p.po))
end Go.Tel
namespace Go.Am
section
variable {C:Ctx}{base nb na:Nat}{K:St→Prop}{KP:DV→Mem→Prop}{Q:Ex→St→Prop}{env:List (Nat×PV)}{m:Mem}
theorem bJ {d:Option Nat}{op:POp}{args:List Opd}{fl t:Nat}{w b:Bool}(hb:look env t= .d (.bool b))(h1:b=true→fU C base ⟨d,op,args,some (t,w),fl⟩ K KP ⟨env,m⟩)(h0:b=false→fU C base ⟨d,op,args,some (t,w),fl⟩ K KP ⟨env,m⟩):
  fU C base ⟨d,op,args,some (t,w),fl⟩ K KP ⟨env,m⟩:=by cases b;exact h0 rfl;exact h1 rfl
theorem bZ {t:Nat}{x y:aB}{b:Bool}(hb:look env t= .d (.bool b))(h1:b=true→pwp C nb na (.cond (.t t) x y) Q ⟨env,m⟩)(h0:b=false→pwp C nb na (.cond (.t t) x y) Q ⟨env,m⟩):
  pwp C nb na (.cond (.t t) x y) Q ⟨env,m⟩:=by cases b;exact h0 rfl;exact h1 rfl
variable {s:St}{bs:List (Option (List PV))}{fz:List Nat}{as:List (Option Arr)}
def upJ {α:Type}(len:Nat)(E:Nat→α→St)(P:Nat→α→Prop):Nat→St→Prop:=fun n s=>∃i a,i≤len∧n=len - i∧s=E i a∧P i a
theorem aX {b:aB}{α:Type}(len:Nat)(E:Nat→α→St)(P:Nat→α→Prop)(i0:Nat)(a0:α)(hi:i0≤len)(hs:s=E i0 a0)(h0:P i0 a0)
  (hr:∀i a,i<len→P i a→pwp C nb na b (Ug nb na (upJ len E P) (len - i) Q) (E i a))
  (he:∀a,P len a→pwp C nb na b (Ug nb na (upJ len E P) 0 Q) (E len a)):pwp C nb na (.loop b) Q s:=by
 refine Ee (upJ len E P) (len - i0) ⟨i0,a0,hi,rfl,hs,h0⟩ ?_
 rintro n s ⟨i,a,hi,rfl,rfl,hP⟩
 by_cases h:i<len
 ·exact hr i a h hP
 ·obtain rfl:i=len:=by omega
  have:=he a hP
  rwa [←Nat.sub_self i]at this
theorem rD {α:Type}{len i:Nat}{E:Nat→α→St}{P:Nat→α→Prop}(a':α)(hi:i<len)(hs:(⟨env,⟨bs,fz.filter (fun b=>decide (b<bs.length)),as⟩⟩:St)=E (i+1) a')(hP:P (i+1) a')
  (h1:nb≤bs.length)(h2:na≤as.length)(h3:(env.all fun p=>p.2.upto bs.length as.length)=true)(h4:(bs.all fun c=>(c.getD []).all fun p=>p.upto bs.length as.length)=true):
  ∃n' s'',n'<len - i∧Weak nb na ⟨env,⟨bs,fz,as⟩⟩ s''∧upJ len E P n' s'':=⟨len - (i+1),_,by omega,Weak.same h1 h2 h3 h4,i+1,a',by omega,rfl,hs,hP⟩
theorem jR {α:Type}{len i:Nat}{E:Nat→α→St}{P:Nat→α→Prop}(n m:Nat)(a':α)(hi:i<len)(hs:(⟨env,⟨bs.take n,fz.filter (fun b=>decide (b<n)),as.take m⟩⟩:St)=E (i+1) a')(hP:P (i+1) a')
  (h1:nb≤n)(h2:na≤m)(h3:(env.all fun p=>p.2.upto n m)=true)(h4:((bs.take n).all fun c=>(c.getD []).all fun p=>p.upto n m)=true):
  ∃n' s'',n'<len - i∧Weak nb na ⟨env,⟨bs,fz,as⟩⟩ s''∧upJ len E P n' s'':=⟨len - (i+1),_,by omega,Weak.take h1 h2 h3 h4,i+1,a',by omega,rfl,hs,hP⟩
def whJ {α:Type}(E:α→St)(P:α→Prop)(μ:α→Nat):Nat→St→Prop:=fun n s=>∃a,n=μ a∧s=E a∧P a
theorem wC {b:aB}{α:Type}(E:α→St)(P:α→Prop)(μ:α→Nat)(a0:α)(hs:s=E a0)(h0:P a0)
  (hr:∀a,P a→pwp C nb na b (Ug nb na (whJ E P μ) (μ a) Q) (E a)):pwp C nb na (.loop b) Q s:=by
 refine Ee (whJ E P μ) (μ a0) ⟨a0,rfl,hs,h0⟩ ?_
 rintro n s ⟨a,rfl,rfl,hP⟩
 exact hr a hP
theorem afl {α:Type}{a:α}{E:α→St}{P:α→Prop}{μ:α→Nat}(a':α)(hn:μ a'<μ a)(hs:(⟨env,⟨bs,fz.filter (fun b=>decide (b<bs.length)),as⟩⟩:St)=E a')(hP:P a')
  (h1:nb≤bs.length)(h2:na≤as.length)(h3:(env.all fun p=>p.2.upto bs.length as.length)=true)(h4:(bs.all fun c=>(c.getD []).all fun p=>p.upto bs.length as.length)=true):
  ∃n' s'',n'<μ a∧Weak nb na ⟨env,⟨bs,fz,as⟩⟩ s''∧whJ E P μ n' s'':=⟨μ a',_,hn,Weak.same h1 h2 h3 h4,a',rfl,hs,hP⟩
def anH {α:Type}(o:Option α)(k:α→Prop):Prop:=match o with|some x=>k x|none=>False
theorem agN {α:Type}{x:α}{k:α→Prop}:anH (some x) k=k x:=rfl
def aht (o:Option (List DV))(cs:List PV):PV:=match o with|some ds=> .d (.agg ds)|none=> .agg cs
def aev (o:Option (List DV))(cs:List PV):PV:=match o with|some ds=> .d (.tup ds)|none=> .tup cs
theorem ak3 {cs:List PV}:GN cs=aht (je cs) cs:=rfl
theorem ak5 {cs:List PV}:Qk cs=aev (je cs) cs:=rfl
theorem afs {ds:List DV}{cs:List PV}:aht (some ds) cs= .d (.agg ds):=rfl
theorem ahd {ds:List DV}{cs:List PV}:aev (some ds) cs= .d (.tup ds):=rfl
section
variable {M:Mem}{L:PV→Mem→Prop}
theorem agh {zs:List DV}{ps:List (Nat×Nat)}{args:List PV}:aj C base (.build zs ps) args M L KP=anH (nZ (zs.map .d) ps args) (fun cs=>L (GN cs) M):=by
 rw[ah4];cases nZ (zs.map .d) ps args<;>rfl
theorem agl {cs:List PV}:nZ cs [] []=some cs:=rfl
theorem MO {cs:List PV}{off n:Nat}{ps:List (Nat×Nat)}{x:DV}{vs:List PV}:nZ cs ((off,n)::ps) (.d x::vs)=bif (PV.cells (.d x)).length==n&&decide (off+n≤cs.length)then nZ (splice cs off (PV.cells (.d x))) ps vs else none:=by
 simp only[nZ,PV.vw,true_and]
 by_cases h1:(PV.cells (.d x)).length=n
 ·by_cases h2:off+n≤cs.length
  ·rw[if_pos ⟨h1,h2⟩];simp[h1,h2]
  ·rw[if_neg (fun h=>h2 h.2)];simp[h1,h2]
 ·rw[if_neg (fun h=>h1 h.1)]
  have:((PV.cells (.d x)).length==n)=false:=by simpa using h1
  rw[this];rfl
theorem akk {i:Nat}{vs:List DV}:aj C base (.ext i) [.d (.tup vs)] M L KP=anH vs[i]? (fun v=>L (.d v) M):=by
 simp only[aj];cases vs[i]?<;>rfl
end
theorem aax {f:Fn}{a b:List DV}:PV.cells (.d (.func f a b))=[.d (.func f a b)]:=rfl
theorem akV {cs:List DV}:PV.isAgg (.d (.agg cs))=true:=rfl
theorem rng {i len:Nat}(h:i<len)(hl:len≤1000000):(i:Int)<(len:Int)∧(0:Int)≤(i:Int)∧IntKind.i64.wrap ((i:Int)+1)=((i+1:Nat):Int):=by
 refine⟨by omega,by omega,?_⟩
 rw[Go.IntWalk.i64_in _ (by omega)];omega
end
theorem alp {k:Nat}:Dv k []=[]:=by rw[Dv]
theorem alq {k:Nat}{v:PV}{vs:List PV}:Dv k (v::vs)=(k,v)::Dv (k+1) vs:=by rw[Dv]
theorem alk {rs:List aN}{K:PV→Mem→Prop}{KP:DV→Mem→Prop}{s:St}:adh rs K KP .normal s=qN rs s (fun vs=>K (resV vs) s.mem):=propext ⟨id,id⟩
theorem alm {rs:List aN}{K:PV→Mem→Prop}{KP:DV→Mem→Prop}{s:St}:adh rs K KP .ret s=qN rs s (fun vs=>K (resV vs) s.mem):=propext ⟨id,id⟩
theorem aln {rs:List aN}{K:PV→Mem→Prop}{KP:DV→Mem→Prop}{s:St}{d:DV}:adh rs K KP (.panic d) s=KP d s.mem:=propext ⟨id,id⟩
theorem alo {rs:List aN}{K:PV→Mem→Prop}{KP:DV→Mem→Prop}{s:St}{i:Nat}:adh rs K KP (.exit i) s=False:=propext ⟨id,id⟩
theorem alr {s:St}{K:List PV→Prop}:qN [] s K=K []:=propext ⟨id,id⟩
theorem als {s:St}{K:List PV→Prop}{t:Nat}{l:List aN}:qN (.tmp t::l) s K=qN l s (fun vs=>K (look s.env t::vs)):=propext ⟨id,id⟩
theorem alu {s:St}{K:List PV→Prop}{t n:Nat}{g:Bool}{l:List aN}:qN (.cell t g n::l) s K=bQ g n (look s.env t) s.mem (fun v=>qN l s fun vs=>K (v::vs)):=propext ⟨id,id⟩
theorem aoR:resV []=Qk []:=by rw[resV];intro x h;cases h
theorem aoS {x:PV}:resV [x]=x:=by rw[resV]
theorem aoT {x y:PV}{l:List PV}:resV (x::y::l)=Qk (x::y::l):=by rw[resV];intro x h;cases h
theorem agY {α:Type}{cs:List α}{off:Nat}{new:List α}:splice cs off new=cs.take off++new++cs.drop (off+new.length):=by rw[splice]
set_option linter.defProp false in
def RN:=And.intro (And.intro (And.intro (And.intro (And.intro (And.intro (And.intro (@ajf) (And.intro (@agS) (@alf))) (And.intro (@aje) (And.intro (@agT) (@alg)))) (And.intro (And.intro (@acd) (And.intro (@ajt) (@ag3))) (And.intro (And.intro (@aem) (@agR)) (And.intro (@XC) (@acN))))) (And.intro (And.intro (And.intro (@Y6) (And.intro (@acM) (@aao))) (And.intro (@ZA) (And.intro (@agI) (@adV)))) (And.intro (And.intro (@abj) (And.intro (@aed) (@aec))) (And.intro (And.intro (@abT) (@abS)) (And.intro (@abU) (@WT)))))) (And.intro (And.intro (And.intro (And.intro (@agq) (And.intro (@abb) (@Zr))) (And.intro (@aek) (And.intro (@ab5) (@alv)))) (And.intro (And.intro (@ajn) (And.intro (@ajq) (@ajm))) (And.intro (And.intro (@ajp) (@ajo)) (And.intro (@alx) (@amJ))))) (And.intro (And.intro (And.intro (@amK) (And.intro (@akw) (@akv))) (And.intro (@amM) (And.intro (@akx) (@aoE)))) (And.intro (And.intro (@ajd) (And.intro (@ajc) (@aiR))) (And.intro (And.intro (@agH) (@aoX)) (And.intro (@aoW) (@amF))))))) (And.intro (And.intro (And.intro (And.intro (And.intro (@aaI) (And.intro (@agf) (@akt))) (And.intro (@ah2) (And.intro (@amB) (@akr)))) (And.intro (And.intro (@ah6) (And.intro (@ah8) (@adp))) (And.intro (And.intro (@ado) (@amA)) (And.intro (@akh) (@an1))))) (And.intro (And.intro (And.intro (@ah5) (And.intro (@ah7) (@mM))) (And.intro (@akj) (And.intro (@amC) (@akl)))) (And.intro (And.intro (@akm) (And.intro (@akn) (@aki))) (And.intro (And.intro (@amy) (@amD)) (And.intro (@akq) (@akp)))))) (And.intro (And.intro (And.intro (And.intro (@agi) (And.intro (@aaL) (@aaJ))) (And.intro (@aaK) (And.intro (@adk) (@adi)))) (And.intro (And.intro (@Zi) (And.intro (@aj6) (@akK))) (And.intro (And.intro (@akU) (@akQ)) (And.intro (@akS) (@akT))))) (And.intro (And.intro (And.intro (@akL) (And.intro (@akR) (@akP))) (And.intro (And.intro (@akO) (@akN)) (And.intro (@akM) (@anQ)))) (And.intro (And.intro (@anR) (And.intro (@anx) (@an4))) (And.intro (And.intro (@an5) (@anr)) (And.intro (@aoI) (@aiN)))))))) (And.intro (And.intro (And.intro (And.intro (And.intro (And.intro (@akY) (And.intro (@agB) (@aiM))) (And.intro (@ac1) (And.intro (@ac2) (@aav)))) (And.intro (And.intro (@Zb) (And.intro (@ac3) (@aax))) (And.intro (And.intro (@akV) (@ako)) (And.intro (@OD) (@ny))))) (And.intro (And.intro (And.intro (@aiA) (And.intro (@ak3) (@ak5))) (And.intro (@afs) (And.intro (@ahd) (@agN)))) (And.intro (And.intro (@agh) (And.intro (@agl) (@MO))) (And.intro (And.intro (@akk) (@amE)) (And.intro (@aoQ) (@ak9)))))) (And.intro (And.intro (And.intro (And.intro (@ai3) (And.intro (@alb) (@agL))) (And.intro (@ala) (And.intro (@aiV) (@ak2)))) (And.intro (And.intro (@agC) (And.intro (@ajE) (@aes))) (And.intro (And.intro (@anu) (@aiO)) (And.intro (@akJ) (@aiy))))) (And.intro (And.intro (And.intro (@ak0) (And.intro (@agE) (@amO))) (And.intro (And.intro (@aif) (@ame)) (And.intro (@amf) (@ahx)))) (And.intro (And.intro (@akA) (And.intro (@amS) (@amR))) (And.intro (And.intro (@ahu) (@aft)) (And.intro (@Option.map_some.{0,0}) (@List.mem_cons.{0}))))))) (And.intro (And.intro (And.intro (And.intro (And.intro (@List.not_mem_nil.{0}) (And.intro (@or_false) (@or_self))) (And.intro (@not_false_eq_true) (And.intro (@ne_eq.{1}) (@decide_true)))) (And.intro (And.intro (@decide_false) (And.intro (@cond_true.{1}) (@cond_false.{1}))) (And.intro (And.intro (@Bool.not_true) (@Bool.not_false)) (And.intro (@Nat.zero_add) (@Nat.add_zero))))) (And.intro (And.intro (And.intro (@List.map_cons.{0,0}) (And.intro (@List.map_nil.{0,0}) (@List.cons_append.{0}))) (And.intro (@List.nil_append.{0}) (And.intro (@List.append_nil.{0}) (@List.length_cons.{0})))) (And.intro (And.intro (@List.length_nil.{0}) (And.intro (@List.replicate_succ.{0}) (@List.replicate_zero.{0}))) (And.intro (And.intro (@List.all_cons.{0}) (@List.all_nil.{0})) (And.intro (@Bool.and_true) (@Bool.true_and)))))) (And.intro (And.intro (And.intro (And.intro (@Bool.and_self) (And.intro (@true_and) (@and_true))) (And.intro (@true_implies) (And.intro (@List.set_cons_zero.{0}) (@List.set_cons_succ.{0})))) (And.intro (And.intro (@List.getElem?_cons_zero.{0}) (And.intro (@List.getElem?_cons_succ.{0}) (@List.drop_succ_cons.{0}))) (And.intro (And.intro (@List.drop_zero.{0}) (@List.take_succ_cons.{0})) (And.intro (@List.take_zero.{0}) (@List.getD_cons_zero.{0}))))) (And.intro (And.intro (And.intro (@List.getD_cons_succ.{0}) (And.intro (@alp) (@alq))) (And.intro (And.intro (@alk) (@alm)) (And.intro (@aln) (@alo)))) (And.intro (And.intro (@alr) (And.intro (@als) (@alu))) (And.intro (And.intro (@aoR) (@aoS)) (And.intro (@aoT) (@agY))))))))
end Go.Am
