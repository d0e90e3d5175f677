/-
  Part 12 of the proof of a law of desks: an abstract machine over the model, contracts of functions, plain laws.
  Conditions: none.
-/
import Derived.Test.YtbefoehadfnkbaaGreatDoorJourneymanParsesM11
import Derived.ProofKit
import Derived.Deep.Slices
import Derived.IntWalk
set_option linter.all false
namespace Go.Am
section
variable {C:Ctx}{nb na:Nat}{Q:Ex→St→Prop}{env:List (Nat×PV)}{bs:List (Option (List PV))}{fz:List Nat}{as:List (Option Arr)}{s:St}
theorem akm:pwp C nb na .skip Q s=Q .normal s:=propext ⟨id,id⟩
theorem ahT {l:Nat}:pwp C nb na (.label l) Q s=Q .normal s:=propext ⟨id,id⟩
theorem amq:pwp C nb na .ret Q s=Q .ret s:=propext ⟨id,id⟩
theorem akl {i:Nat}:pwp C nb na (.exit i) Q s=Q (.exit i) s:=propext ⟨id,id⟩
theorem ahU {b:aB}:pwp C nb na (.scope b) Q s=pwp C nb na b Q s:=propext ⟨id,id⟩
def akA (C:Ctx)(nb na:Nat)(b:aB)(Q:Ex→St→Prop):Ex→St→Prop:=fun e s'=>match e with| .normal=>pwp C nb na b Q s'|e=>Q e s'
def OX (id:Nat)(Q:Ex→St→Prop):Ex→St→Prop:=fun e s'=>match e with| .exit id'=>if id'=id then Q .normal s' else Q (.exit id') s'|e=>Q e s'
def Uz (nb na:Nat)(I:Nat→St→Prop)(n:Nat)(Q:Ex→St→Prop):Ex→St→Prop:=fun e s'=>match e with| .normal=>∃n' s'',n'<n∧Weak nb na s' s''∧I n' s''|e=>Q e s'
theorem amr {a b:aB}:pwp C nb na (.seq a b) Q s=pwp C nb na a (akA C nb na b Q) s:=propext ⟨id,id⟩
theorem adn {b:aB}:akA C nb na b Q .normal s=pwp C nb na b Q s:=propext ⟨id,id⟩
theorem akB {b:aB}:akA C nb na b Q .ret s=Q .ret s:=propext ⟨id,id⟩
theorem ah4 {b:aB}{i:Nat}:akA C nb na b Q (.exit i) s=Q (.exit i) s:=propext ⟨id,id⟩
theorem afq {b:aB}{d:DV}:akA C nb na b Q (.panic d) s=Q (.panic d) s:=propext ⟨id,id⟩
theorem ahS {i:Nat}{b:aB}:pwp C nb na (.block i b) Q s=pwp C nb na b (OX i Q) s:=propext ⟨id,id⟩
theorem Yp {i:Nat}:OX i Q .normal s=Q .normal s:=propext ⟨id,id⟩
theorem adT {i:Nat}:OX i Q .ret s=Q .ret s:=propext ⟨id,id⟩
theorem ZT {i:Nat}{d:DV}:OX i Q (.panic d) s=Q (.panic d) s:=propext ⟨id,id⟩
theorem Uc {i j:Nat}:OX i Q (.exit j) s=if j=i then Q .normal s else Q (.exit j) s:=propext ⟨id,id⟩
theorem adS {i j:Nat}(h:(j==i)=true):OX i Q (.exit j) s=Q .normal s:=by rw[Uc,if_pos (by simpa using h)]
theorem abh {i j:Nat}(h:(j==i)=false):OX i Q (.exit j) s=Q (.exit j) s:=by rw[Uc,if_neg (by simpa using h)]
theorem aaw {I:Nat→St→Prop}{n:Nat}:Uz nb na I n Q .normal s=∃n' s'',n'<n∧Weak nb na s s''∧I n' s'':=propext ⟨id,id⟩
theorem ahI {I:Nat→St→Prop}{n:Nat}:Uz nb na I n Q .ret s=Q .ret s:=propext ⟨id,id⟩
theorem aeY {I:Nat→St→Prop}{n i:Nat}:Uz nb na I n Q (.exit i) s=Q (.exit i) s:=propext ⟨id,id⟩
theorem acn {I:Nat→St→Prop}{n:Nat}{d:DV}:Uz nb na I n Q (.panic d) s=Q (.panic d) s:=propext ⟨id,id⟩
theorem H8 {b:aB}(I:Nat→St→Prop)(n:Nat)(h0:I n s)(hr:∀n s,I n s→pwp C nb na b (Uz nb na I n Q) s):pwp C nb na (.loop b) Q s:=⟨I,n,h0,hr⟩
theorem Q9 {x:Bool}{c:Opd}{a b:aB}(h:s.val c= .d (.bool x)):pwp C nb na (.cond c a b) Q s=((x=true→pwp C nb na a Q s)∧(x=false→pwp C nb na b Q s)):=by
 simp only[pwp,h]
theorem aff {t:Nat}{a b:aB}{m:Mem}(h:look env t= .d (.bool true)):pwp C nb na (.cond (.t t) a b) Q ⟨env,m⟩=pwp C nb na a Q ⟨env,m⟩:=by
 rw[Q9 (s:=⟨env,m⟩) (c:= .t t) (x:=true) h];simp
theorem afe {t:Nat}{a b:aB}{m:Mem}(h:look env t= .d (.bool false)):pwp C nb na (.cond (.t t) a b) Q ⟨env,m⟩=pwp C nb na b Q ⟨env,m⟩:=by
 rw[Q9 (s:=⟨env,m⟩) (c:= .t t) (x:=false) h];simp
theorem ac3 {a b:aB}:pwp C nb na (.cond (.c (.bool true)) a b) Q s=pwp C nb na a Q s:=by
 rw[Q9 (x:=true) rfl];simp
theorem ac2 {a b:aB}:pwp C nb na (.cond (.c (.bool false)) a b) Q s=pwp C nb na b Q s:=by
 rw[Q9 (x:=false) rfl];simp
theorem XA {d:Bool}{ops:List PO}{ae5:Nat}{keep fzs:List Nat}{m:Mem}:pwp C nb na (.region d ops ae5 keep fzs) Q ⟨env,m⟩=
  zA C m.boxes.length ops (fun s'=>zW fzs (Q .normal) ⟨iI s'.env keep,s'.mem⟩) (fun d M=>Q (.panic d) ⟨[],M⟩) ⟨env,⟨m.boxes++List.replicate ae5 none,m.fz,m.aA⟩⟩:=propext ⟨id,id⟩
theorem ac4 {d:Bool}{ops:List PO}{keep:List Nat}{m:Mem}:pwp C nb na (.region d ops 0 keep []) Q ⟨env,m⟩=
  zA C m.boxes.length ops (fun s'=>Q .normal ⟨iI s'.env keep,s'.mem⟩) (fun d M=>Q (.panic d) ⟨[],M⟩) ⟨env,m⟩:=by
 rw[XA];simp only[List.replicate_zero,List.append_nil,zW]
theorem ahp {K:St→Prop}:zW [] K s=K s:=propext ⟨id,id⟩
theorem ace:iI env []=[]:=rfl
theorem aao {k:Nat}{ks:List Nat}:iI env (k::ks)=(k,look env k)::iI env ks:=by simp only[iI,List.map_cons]
end
section
variable {C:Ctx}{base:Nat}{K:St→Prop}{KP:DV→Mem→Prop}{s:St}{env:List (Nat×PV)}{m:Mem}
theorem afo:zA C base [] K KP s=K s:=propext ⟨id,id⟩
theorem adg {o:PO}{os:List PO}:zA C base (o::os) K KP s=fU C base o (fun s'=>zA C base os K KP s') KP s:=propext ⟨id,id⟩
theorem amJ {dst:Option Nat}{op:POp}{args:List Opd}:fU C base ⟨dst,op,args,none,0⟩ K KP ⟨env,m⟩=aj C base op (args.map (St.val ⟨env,m⟩)) m (fun v M=>K ⟨put env dst v,M⟩) KP:=propext ⟨fun h=>h.2,fun h=>⟨trivial,h⟩⟩
theorem aku {dst:Option Nat}{op:POp}{args:List Opd}{fl:Nat}:fU C base ⟨dst,op,args,none,fl⟩ K KP ⟨env,m⟩=(CY base fl (args.map (St.val ⟨env,m⟩))∧aj C base op (args.map (St.val ⟨env,m⟩)) m (fun v M=>K ⟨put env dst v,M⟩) KP):=propext ⟨id,id⟩
theorem akx {dst:Option Nat}{op:POp}{args:List Opd}{fl t:Nat}(h:look env t= .d (.bool true)):fU C base ⟨dst,op,args,some (t,true),fl⟩ K KP ⟨env,m⟩=
  (CY base fl (args.map (St.val ⟨env,m⟩))∧aj C base op (args.map (St.val ⟨env,m⟩)) m (fun v M=>K ⟨put env dst v,M⟩) KP):=by
 simp only[fU,h];simp
theorem akt {dst:Option Nat}{op:POp}{args:List Opd}{fl t:Nat}(h:look env t= .d (.bool false)):fU C base ⟨dst,op,args,some (t,false),fl⟩ K KP ⟨env,m⟩=
  (CY base fl (args.map (St.val ⟨env,m⟩))∧aj C base op (args.map (St.val ⟨env,m⟩)) m (fun v M=>K ⟨put env dst v,M⟩) KP):=by
 simp only[fU,h];simp
theorem akw {dst:Option Nat}{op:POp}{args:List Opd}{fl t:Nat}(h:look env t= .d (.bool false)):fU C base ⟨dst,op,args,some (t,true),fl⟩ K KP ⟨env,m⟩=K ⟨put env dst (.d (.tup [])),m⟩:=by
 simp only[fU,h];simp
theorem akv {dst:Option Nat}{op:POp}{args:List Opd}{fl t:Nat}(h:look env t= .d (.bool true)):fU C base ⟨dst,op,args,some (t,false),fl⟩ K KP ⟨env,m⟩=K ⟨put env dst (.d (.tup [])),m⟩:=by
 simp only[fU,h];simp
theorem amK {dst:Option Nat}{op:POp}{args:List Opd}{fl t:Nat}{w:Bool}(h:look env t= .d (.tup [])):fU C base ⟨dst,op,args,some (t,w),fl⟩ K KP ⟨env,m⟩=K ⟨put env dst (.d (.tup [])),m⟩:=by
 simp only[fU,h]
theorem anZ {args:List PV}:CY base 0 args=True:=rfl
theorem an0 {args:List PV}:CY base 1 args=(args.all PV.isD=true):=propext ⟨id,id⟩
theorem alE {b o:Nat}{l:List PV}:CY base 2 (.ptr b o::l)=(b<base):=propext ⟨id,id⟩
theorem alD {x:DV}{l:List PV}:CY base 2 (.d x::l)=True:=propext ⟨id,id⟩
theorem an1 {k v i o:Nat}{l:List PV}:CY base 3 (.jY k v i o::l)=True:=propext ⟨id,id⟩
theorem an2 {i b o:Nat}{l:List PV}:CY base (i+4) (.ptr b o::l)=(b=base+i):=propext ⟨id,id⟩
theorem alF {f b o:Nat}{l:List PV}(h:4≤f):CY base f (.ptr b o::l)=(b=base+(f - 4)):=by
 obtain⟨i,rfl⟩:∃i,f=i+4:=⟨f - 4,by omega⟩
 rw[an2];simp
theorem apW {x:DV}:PV.isD (.d x)=true:=rfl
theorem akk {d:Nat}{v:PV}:put env (some d) v=(d,v)::env:=by simp only[put]
theorem akj {v:PV}:put env none v=env:=by simp only[put]
theorem ajV {d:Nat}{v:PV}:look ((d,v)::env) d=v:=by simp[look]
theorem ahH {d t:Nat}{v:PV}(h:(d==t)=false):look ((d,v)::env) t=look env t:=by simp[look,h]
theorem aqe {n:Nat}:St.val ⟨env,m⟩ (.t n)=look env n:=by simp only[St.val]
theorem aqd {x:DV}:St.val ⟨env,m⟩ (.c x)= .d x:=by simp only[St.val]
end
section
variable {C:Ctx}{base:Nat}{M:Mem}{K:PV→Mem→Prop}{KP:DV→Mem→Prop}
theorem anV {x:PV}:aj C base .mov [x] M K KP=K x M:=propext ⟨id,id⟩
theorem ahe {sz:Nat}{xs:List DV}:aj C base (.jV sz) [.d (.slice true xs)] M K KP=(0<sz∧(∀e∈xs,e.fits sz=true)∧K (.tsl M.aA.length 0 0) {M with aA:=M.aA++ [some ⟨sz,xs,0,0⟩]}):=propext ⟨fun h=>h.2,fun h=>⟨rfl,h⟩⟩
theorem abE {sz:Nat}:aj C base (.jV sz) [.d (.slice true [])] M K KP=(0<sz∧K (.tsl M.aA.length 0 0) {M with aA:=M.aA++ [some ⟨sz,[],0,0⟩]}):=by
 rw[ahe];simp
theorem ahf {sz k ver skip:Nat}:aj C base (.jV sz) [.tsl k ver skip] M K KP=K (.tsl k ver skip) M:=propext ⟨id,id⟩
theorem alB {t:Bool}{x y:PV}:aj C base .pick [.d (.bool t),x,y] M K KP=K (bif t then x else y) M:=propext ⟨id,id⟩
theorem aja {i:Nat}{zs:List DV}:aj C base (.alloc i zs) [] M K KP=(M.boxes[base+i]?=some none∧K (.ptr (base+i) 0) {M with boxes:=M.boxes.set (base+i) (some (zs.map .d))}):=propext ⟨id,id⟩
theorem anR {i:Nat}{x:PV}:aj C base (.box i) [x] M K KP=(x.wS=false∧M.boxes[base+i]?=some none∧K (.ptr (base+i) 0) {M with boxes:=M.boxes.set (base+i) (some x.cells)}):=propext ⟨id,id⟩
theorem ajd {zs:List DV}{ps:List (Nat×Nat)}{args:List PV}:aj C base (.build zs ps) args M K KP=(match nV (zs.map .d) ps args with|some cs=>K (G5 cs) M|none=>False):=propext ⟨id,id⟩
theorem alA {agg:Bool}{n:Nat}{x:PV}:aj C base (.load agg n) [x] M K KP=bQ agg n x M fun v=>K v M:=propext ⟨id,id⟩
theorem ajf {agg:Bool}{n:Nat}{x:PV}:aj C base (.Oi agg n) [x] M K KP=qH agg n x M fun v=>K v M:=propext ⟨id,id⟩
theorem ajh {n:Nat}{x v:PV}:aj C base (.store n) [x,v] M K KP=jH n x v M fun M'=>K .dead M':=propext ⟨id,id⟩
theorem aeu {b o:Nat}:aj C base .aW [.ptr b o] M K KP=K (.ptr b o) M:=propext ⟨id,id⟩
theorem aes {cs:List DV}:aj C base .aW [.d (.aX cs)] M K KP=K (.d (.aX cs)) M:=propext ⟨id,id⟩
theorem anQ {op:BinOp}{x y:PV}:aj C base (.bin op) [x,y] M K KP=Ub op x y fun v=>K (.d v) M:=propext ⟨id,id⟩
theorem afQ {neq t:Bool}{ks:List Nat}{a b:List DV}(h:dB ks a b=some t):aj C base (.Qg neq ks) [.d (.agg a), .d (.agg b)] M K KP=K (.d (.bool (t !=neq))) M:=by simp only[aj,h]
theorem alo {neq a b:Bool}:aj C base (.abf neq) [.d (.bool a), .d (.bool b)] M K KP=K (.d (.bool ((a==b) !=neq))) M:=propext ⟨id,id⟩
theorem aje {neq ex:Bool}{xs:List DV}:aj C base (.isNil neq) [.d (.slice ex xs), .d (.slice true [])] M K KP=((xs≠[]→K (.d (.bool neq)) M)∧(xs=[]→∀b,K (.d (.bool b)) M)):=propext ⟨id,id⟩
theorem apf {op:UnOp}{x:PV}:aj C base (.un op) [x] M K KP=adC op x fun v=>K (.d v) M:=propext ⟨id,id⟩
theorem alq {k k':IntKind}{n:Int}:aj C base (.conv k) [.d (.int k' n)] M K KP=K (.d (.int k (k.wrap n))) M:=propext ⟨id,id⟩
theorem anU {fn:Fn}{nf:Nat}{args:List PV}:aj C base (.mkF fn nf) args M K KP=(match jd args with|some ds=>K (.d (.func fn (ds.take nf) (ds.drop nf))) M|none=>K (.func fn (args.take nf) (args.drop nf)) M):=propext ⟨id,id⟩
theorem anS {off:Nat}{x:PV}:aj C base (.fld off) [x] M K KP=nK off x M fun v=>K v M:=propext ⟨id,id⟩
theorem als {agg:Bool}{off n:Nat}{x:PV}:aj C base (.WH agg off n) [x] M K KP=(x.isAgg=true∧off+n≤x.cells.length∧K (ld agg n off x.cells) M):=propext ⟨id,id⟩
theorem alu {sz:Nat}{x i:PV}:aj C base (.bC sz) [x,i] M K KP=xX sz x i M fun v=>K v M:=propext ⟨id,id⟩
theorem alv {s:ByteArray}{k:IntKind}{n:Int}:aj C base .abW [.d (.str s), .d (.int k n)] M K KP=(0≤n∧n.toNat<s.size∧K (.d (.int .u8 (s.data.getD n.toNat 0).toNat)) M):=propext ⟨id,id⟩
theorem alx {agg:Bool}{sz len:Nat}{x:PV}{k:IntKind}{n:Int}:aj C base (.WQ agg sz len) [x, .d (.int k n)] M K KP=(x.isAgg=true∧0≤n∧n<len∧n.toNat*sz+sz≤x.cells.length∧K (ld agg sz (n.toNat*sz) x.cells) M):=propext ⟨id,id⟩
theorem alp {f:FuncId}{args:List PV}:aj C base (.call f) args M K KP=SC C f args M K KP:=propext ⟨id,id⟩
theorem ahi {f:FuncId}{args:List PV}:aj C base (.iZ f) args M K KP=RD C f args M K:=propext ⟨id,id⟩
theorem anP {sz:Nat}{st1:Bool}{s x:PV}:aj C base (.app sz st1) [s,x] M K KP=mP sz st1 s x M K:=propext ⟨id,id⟩
theorem anT {x:PV}:aj C base .len [x] M K KP=vI x M fun n=>K (.d (.int .i64 n)) M:=propext ⟨id,id⟩
theorem alz {s:ByteArray}:aj C base .Kq [.d (.str s)] M K KP=K (.d (.int .i64 s.size)) M:=propext ⟨id,id⟩
theorem aly {n:Nat}{args:List PV}:aj C base (.ach n) args M K KP=K (.d (.int .i64 n)) M:=propext ⟨id,id⟩
theorem ahh {mx:Bool}{k k':IntKind}{a b:Int}:aj C base (.La mx) [.d (.int k a), .d (.int k' b)] M K KP=K (.d (.int k (bif mx then(if b>a then b else a)else(if b<a then b else a)))) M:=propext ⟨id,id⟩
theorem abI {neq:Bool}{b o:Nat}:aj C base (.Ba neq) [.ptr b o, .d .nilPtr] M K KP=K (.d (.bool neq)) M:=propext ⟨id,id⟩
theorem abG {neq:Bool}{cs:List DV}:aj C base (.Ba neq) [.d (.aX cs), .d .nilPtr] M K KP=K (.d (.bool neq)) M:=propext ⟨id,id⟩
theorem abH {neq:Bool}:aj C base (.Ba neq) [.d .nilPtr, .d .nilPtr] M K KP=K (.d (.bool !neq)) M:=propext ⟨id,id⟩
theorem aeo {sz len b o:Nat}{k:IntKind}{n:Int}:aj C base (.Oe sz len) [.ptr b o, .d (.int k n)] M K KP=(0≤n∧n<len∧K (.ptr b (o+n.toNat*sz)) M):=propext ⟨id,id⟩
theorem aen {sz len:Nat}{cs:List DV}{k:IntKind}{n:Int}:aj C base (.Oe sz len) [.d (.aX cs), .d (.int k n)] M K KP=(0≤n∧n<len∧n.toNat*sz≤cs.length∧K (.d (.aX (cs.drop (n.toNat*sz)))) M):=propext ⟨id,id⟩
theorem aaf {agg:Bool}{sz len:Nat}{cs:List DV}:aj C base (.YL agg sz len) [.d (.aX cs)] M K KP=(cs.length=len*sz∧(agg=false→sz=1∧∀c∈cs,c.one=true)∧K (.d (.slice true (yY agg sz len cs))) M):=propext ⟨id,id⟩
theorem alc {op:BinOp}{k:IntKind}{a b:Int}{K:DV→Prop}:Ub op (.d (.int k a)) (.d (.int k b)) K=oK op k a b K:=propext ⟨fun h=>h.2,fun h=>⟨rfl,h⟩⟩
theorem alT {k:IntKind}{a b:Int}{K:DV→Prop}:oK .add k a b K=K (.int k (k.wrap (a+b))):=propext ⟨id,id⟩
theorem al3 {k:IntKind}{a b:Int}{K:DV→Prop}:oK .sub k a b K=K (.int k (k.wrap (a - b))):=propext ⟨id,id⟩
theorem alZ {k:IntKind}{a b:Int}{K:DV→Prop}:oK .mul k a b K=K (.int k (k.wrap (a*b))):=propext ⟨id,id⟩
theorem al1 {k:IntKind}{a b:Int}{K:DV→Prop}:oK .quo k a b K=(b≠0∧K (.int k (k.wrap (a.tdiv b)))):=propext ⟨id,id⟩
theorem al2 {k:IntKind}{a b:Int}{K:DV→Prop}:oK .rem k a b K=(b≠0∧K (.int k (a.tmod b))):=propext ⟨id,id⟩
theorem alU {k:IntKind}{a b:Int}{K:DV→Prop}:oK .eql k a b K=K (.bool (a==b)):=propext ⟨id,id⟩
theorem al0 {k:IntKind}{a b:Int}{K:DV→Prop}:oK .neq k a b K=K (.bool (a !=b)):=propext ⟨id,id⟩
theorem alY {k:IntKind}{a b:Int}{K:DV→Prop}:oK .lss k a b K=K (.bool (decide (a<b))):=propext ⟨id,id⟩
theorem alX {k:IntKind}{a b:Int}{K:DV→Prop}:oK .leq k a b K=K (.bool (decide (a≤b))):=propext ⟨id,id⟩
theorem alW {k:IntKind}{a b:Int}{K:DV→Prop}:oK .gtr k a b K=K (.bool (decide (a>b))):=propext ⟨id,id⟩
theorem alV {k:IntKind}{a b:Int}{K:DV→Prop}:oK .geq k a b K=K (.bool (decide (a≥b))):=propext ⟨id,id⟩
theorem ao3 {k:IntKind}{a:Int}{K:DV→Prop}:adC .neg (.d (.int k a)) K=K (.int k (k.wrap (0 - a))):=propext ⟨id,id⟩
theorem ao4 {a:Bool}{K:DV→Prop}:adC .not (.d (.bool a)) K=K (.bool !a):=propext ⟨id,id⟩
theorem aoK {agg:Bool}{n:Nat}{cs:List DV}{K:PV→Prop}:bQ agg n (.d (.aX cs)) M K=(n≤cs.length∧K (ldD agg n 0 cs)):=propext ⟨id,id⟩
theorem apj {off:Nat}{cs:List DV}{K:PV→Prop}:nK off (.d (.aX cs)) M K=(off≤cs.length∧K (.d (.aX (cs.drop off)))):=propext ⟨id,id⟩
theorem apk {off b o:Nat}{K:PV→Prop}:nK off (.ptr b o) M K=K (.ptr b (o+off)):=propext ⟨id,id⟩
theorem aoF {sz:Nat}{ex:Bool}{xs:List DV}{k:IntKind}{n:Int}{K:PV→Prop}:xX sz (.d (.slice ex xs)) (.d (.int k n)) M K=(0≤n∧n.toNat<xs.length∧(xs.getD n.toNat default).cells.length=sz∧K (.d (.aX (xs.getD n.toNat default).cells))):=propext ⟨id,id⟩
theorem apZ {ex:Bool}{xs:List DV}{K:Int→Prop}:vI (.d (.slice ex xs)) M K=K xs.length:=propext ⟨id,id⟩
theorem ajR {n off:Nat}{cs:List PV}:ld false n off cs=cs.getD off .dead:=rfl
theorem al8 {n off:Nat}{cs:List PV}:ld true n off cs=G5 ((cs.drop off).take n):=rfl
theorem ahB {n off:Nat}{cs:List DV}:ldD false n off cs= .d (cs.getD off default):=rfl
theorem ajQ {n off:Nat}{cs:List DV}:ldD true n off cs= .d (.agg ((cs.drop off).take n)):=rfl
theorem ad8 {cs:List DV}:PV.cells (.d (.agg cs))=cs.map .d:=rfl
theorem ad9 {k:IntKind}{n:Int}:PV.cells (.d (.int k n))=[.d (.int k n)]:=rfl
theorem abp {b:Bool}:PV.cells (.d (.bool b))=[.d (.bool b)]:=rfl
theorem ZY {ex:Bool}{xs:List DV}:PV.cells (.d (.slice ex xs))=[.d (.slice ex xs)]:=rfl
theorem aea {s:ByteArray}:PV.cells (.d (.str s))=[.d (.str s)]:=rfl
theorem OZ {cs:List DV}:DV.cells (.agg cs)=cs:=rfl
theorem jX {k:IntKind}{n:Int}:DV.cells (.int k n)=[.int k n]:=rfl
theorem ajF {x:DV}:PV.wS (.d x)=false:=rfl
theorem ajZ:bH=⟨[],[],[]⟩:=rfl
def aat (c:Option (Option (List PV)))(agg:Bool)(n off:Nat)(K:PV→Prop):Prop:=match c with|some (some cs)=>off+n≤cs.length∧K (ld agg n off cs)| _=>False
def mQ (c:Option (Option (List PV)))(b n off:Nat)(v:PV)(M:Mem)(K:Mem→Prop):Prop:=match c with
 |some (some cs)=>b∉M.fz∧v.cells.length=n∧v.cells.all PV.one=true∧off+n≤cs.length∧K ⟨M.boxes.set b (some (splice cs off v.cells)),M.fz,M.aA⟩
 | _=>False
def lenRow (c:Option (Option Arr))(ver skip:Nat)(K:Int→Prop):Prop:=match c with|some (some A)=>A.ver=ver∧K ((A.elems.length - skip:Nat):Int)| _=>False
def aeL (c:Option (Option Arr))(sz k ver skip:Nat)(n:Int)(K:PV→Prop):Prop:=match c with|some (some A)=>A.ver=ver∧A.sz=sz∧0≤n∧skip+n.toNat<A.elems.length∧K (.jY k ver (skip+n.toNat) 0)| _=>False
def loadRow (c:Option (Option Arr))(agg:Bool)(n ver i off:Nat)(K:PV→Prop):Prop:=match c with
 |some (some A)=>A.ver=ver∧off+n≤(A.elems.getD i default).cells.length∧K (ldD agg n off (A.elems.getD i default).cells)| _=>False
def aeB (c:Option (Option Arr))(k ver i o:Nat)(K:PV→Prop):Prop:=match c with|some (some A)=>A.ver=ver∧K (.jY k ver i o)| _=>False
def appRow (c:Option (Option Arr))(sz:Nat)(st1:Bool)(k ver skip:Nat)(ys:List DV)(M:Mem)(K:PV→Mem→Prop):Prop:=match c with
 |some (some A)=>A.ver=ver∧A.sz=sz∧A.st≠2∧A.elems.length+ys.length≤1073741824∧K (.tsl k (ver+1) 0) ⟨M.boxes,M.fz,M.aA.set k (some ⟨sz,A.elems.drop skip++ys,ver+1,bif st1 then 1 else A.st⟩)⟩
 | _=>False
variable {bs:List (Option (List PV))}{fz:List Nat}{as:List (Option Arr)}
theorem amc {agg:Bool}{n b off:Nat}{K:PV→Prop}:bQ agg n (.ptr b off) ⟨bs,fz,as⟩ K=aat bs[b]? agg n off K:=by
 simp only[bQ,aat,Mem.box]
 rcases bs[b]? with _| _|cs<;>simp
theorem ahC {agg:Bool}{n off:Nat}{cs:List PV}{K:PV→Prop}:aat (some (some cs)) agg n off K=(off+n≤cs.length∧K (ld agg n off cs)):=propext ⟨id,id⟩
theorem akM {n b off:Nat}{v:PV}{K:Mem→Prop}:jH n (.ptr b off) v ⟨bs,fz,as⟩ K=mQ bs[b]? b n off v ⟨bs,fz,as⟩ K:=by
 simp only[jH,mQ,Mem.box]
 rcases bs[b]? with _| _|cs<;>simp
theorem afw {b n off:Nat}{v:PV}{cs:List PV}{K:Mem→Prop}:mQ (some (some cs)) b n off v ⟨bs,fz,as⟩ K=
  (b∉fz∧v.cells.length=n∧v.cells.all PV.one=true∧off+n≤cs.length∧K ⟨bs.set b (some (splice cs off v.cells)),fz,as⟩):=propext ⟨id,id⟩
theorem ac7 {k ver:Nat}:(⟨bs,fz,as⟩:Mem).row k ver=match as[k]? with|some (some A)=>if A.ver=ver then some A else none| _=>none:=rfl
theorem aoH {k ver skip:Nat}{K:Int→Prop}:vI (.tsl k ver skip) ⟨bs,fz,as⟩ K=lenRow as[k]? ver skip K:=by
 simp only[vI,lenRow,ac7]
 rcases as[k]? with _| _|A
 ·simp
 ·simp
 ·by_cases h:A.ver=ver<;>simp[h]
theorem ajS {ver skip:Nat}{sz v st:Nat}{xs:List DV}{K:Int→Prop}:lenRow (some (some ⟨sz,xs,v,st⟩)) ver skip K=(v=ver∧K ((xs.length - skip:Nat):Int)):=propext ⟨id,id⟩
theorem alS {sz k ver skip:Nat}{kk:IntKind}{n:Int}{K:PV→Prop}:xX sz (.tsl k ver skip) (.d (.int kk n)) ⟨bs,fz,as⟩ K=aeL as[k]? sz k ver skip n K:=by
 simp only[xX,aeL,ac7]
 rcases as[k]? with _| _|A
 ·simp
 ·simp
 ·by_cases h:A.ver=ver<;>simp[h]
theorem ajD {sz k ver skip:Nat}{n:Int}{sz' v st:Nat}{xs:List DV}{K:PV→Prop}:aeL (some (some ⟨sz',xs,v,st⟩)) sz k ver skip n K=(v=ver∧sz'=sz∧0≤n∧skip+n.toNat<xs.length∧K (.jY k ver (skip+n.toNat) 0)):=propext ⟨id,id⟩
theorem ama {agg:Bool}{n k ver i off:Nat}{K:PV→Prop}:bQ agg n (.jY k ver i off) ⟨bs,fz,as⟩ K=loadRow as[k]? agg n ver i off K:=by
 simp only[bQ,loadRow,ac7]
 rcases as[k]? with _| _|A
 ·simp
 ·simp
 ·by_cases h:A.ver=ver<;>simp[h]
theorem ahE {agg:Bool}{n ver i off sz v st:Nat}{xs:List DV}{K:PV→Prop}:loadRow (some (some ⟨sz,xs,v,st⟩)) agg n ver i off K=(v=ver∧off+n≤(xs.getD i default).cells.length∧K (ldD agg n off (xs.getD i default).cells)):=propext ⟨id,id⟩
theorem an3 {off k ver i o:Nat}{K:PV→Prop}:nK off (.jY k ver i o) ⟨bs,fz,as⟩ K=aeB as[k]? k ver i (o+off) K:=by
 simp only[nK,aeB,ac7]
 rcases as[k]? with _| _|A
 ·simp
 ·simp
 ·by_cases h:A.ver=ver<;>simp[h]
theorem ajn {k ver i o sz v st:Nat}{xs:List DV}{K:PV→Prop}:aeB (some (some ⟨sz,xs,v,st⟩)) k ver i o K=(v=ver∧K (.jY k ver i o)):=propext ⟨id,id⟩
theorem anx {sz:Nat}{st1 ex:Bool}{xs ys:List DV}{K:PV→Mem→Prop}:mP sz st1 (.d (.slice true xs)) (.d (.slice ex ys)) ⟨bs,fz,as⟩ K=
  (0<sz∧(∀y∈ys,y.fits sz=true)∧(st1=true→ys≠[])∧(∀y∈xs,y.fits sz=true)∧xs.length+ys.length≤1073741824∧K (.tsl as.length 0 0) ⟨bs,fz,as++ [some ⟨sz,xs++ys,0,bif st1 then 1 else 0⟩]⟩):=by
 simp only[mP,Dv,true_and]
theorem anz {sz k ver skip:Nat}{st1 ex:Bool}{ys:List DV}{K:PV→Mem→Prop}:mP sz st1 (.tsl k ver skip) (.d (.slice ex ys)) ⟨bs,fz,as⟩ K=
  (0<sz∧(∀y∈ys,y.fits sz=true)∧(st1=true→ys≠[])∧appRow as[k]? sz st1 k ver skip ys ⟨bs,fz,as⟩ K):=by
 simp only[mP,Dv,appRow,ac7]
 rcases as[k]? with _| _|A
 ·simp
 ·simp
 ·by_cases h:A.ver=ver<;>simp[h]
theorem aiE {sz k ver skip:Nat}{st1:Bool}{ys:List DV}{sz' v st:Nat}{xs:List DV}{K:PV→Mem→Prop}:appRow (some (some ⟨sz',xs,v,st⟩)) sz st1 k ver skip ys ⟨bs,fz,as⟩ K=
  (v=ver∧sz'=sz∧st≠2∧xs.length+ys.length≤1073741824∧K (.tsl k (ver+1) 0) ⟨bs,fz,as.set k (some ⟨sz,xs.drop skip++ys,ver+1,bif st1 then 1 else st⟩)⟩):=propext ⟨id,id⟩
def Yx (v:PV)(t:Nat)(ts:List Nat)(K:St→Prop)(env:List (Nat×PV))(M:Mem):Prop:=match datum M v with|some d=>zW ts K ⟨(t, .d d)::env,M.frz [v]⟩|none=>False
def apl (v:PV)(t:Nat)(ts:List Nat)(K:St→Prop)(env:List (Nat×PV))(M:Mem):Prop:=Yx v t ts K env M
def an5 (c:Option (Option (List PV)))(b off t:Nat)(ts:List Nat)(K:St→Prop)(env:List (Nat×PV))(M:Mem):Prop:=match c with
 |some (some cs)=>match jd cs with|some ds=>zW ts K ⟨(t, .d (.aX (ds.drop off)))::env,⟨M.boxes,b::M.fz,M.aA⟩⟩|none=>apl (.ptr b off) t ts K env M
 | _=>False
theorem alI {K:St→Prop}{t:Nat}{ts:List Nat}{env:List (Nat×PV)}{m:Mem}:zW (t::ts) K ⟨env,m⟩=Yx (look env t) t ts K env m:=rfl
theorem YW {M:Mem}:∀{ds:List DV},bW M (ds.map .d)=some ds
 | []=>rfl
 |d::ds=>by simp only[List.map_cons,bW,eU,YW]
theorem an7 {K:St→Prop}{b off t:Nat}{ts:List Nat}{env:List (Nat×PV)}:Yx (.ptr b off) t ts K env ⟨bs,fz,as⟩=an5 bs[b]? b off t ts K env ⟨bs,fz,as⟩:=by
 unfold an5
 cases hb:bs[b]? with
 |none=>simp[Yx,datum,Mem.box,hb]
 |some o=>
  cases o with
  |none=>simp[Yx,datum,Mem.box,hb]
  |some cs=>
   simp only
   cases hd:jd cs with
   |none=>rfl
   |some ds=>
    have:=MV hd
    subst this
    have h2:(ds.map PV.d).flatMap xG=[]:=by
     clear hb hd;induction ds with
     |nil=>rfl
     |cons d ds ih=>simp[xG]
    have h3:(ds.map PV.d).flatMap xH=[]:=by
     clear hb hd h2;induction ds with
     |nil=>rfl
     |cons d ds ih=>simp[xH]
    simp only[h3,Yx,datum,Mem.box,hb,YW,Option.map_some,Mem.frz,List.flatMap_cons,List.flatMap_nil,oD,oC,h2,List.append_nil,List.cons_append,List.nil_append,Qv,List.foldl_nil]
theorem an6 {K:St→Prop}{b off t:Nat}{ts:List Nat}{env:List (Nat×PV)}{cs:List PV}:an5 (some (some cs)) b off t ts K env ⟨bs,fz,as⟩=(match jd cs with|some ds=>zW ts K ⟨(t, .d (.aX (ds.drop off)))::env,⟨bs,b::fz,as⟩⟩|none=>apl (.ptr b off) t ts K env ⟨bs,fz,as⟩):=rfl
theorem aiB:jd []=some []:=rfl
theorem agw {x:DV}{l:List PV}:jd (.d x::l)=(jd l).map (x::·):=rfl
theorem au {base:Nat}{KP:DV→Mem→Prop}{f:FuncId}{args:List PV}{ds ds':List DV}{x:DV}(h1:jd args=some ds)(h2:ds.map DV.strip=ds')(hp:Pure C f ds' (.d x) [])(hK:K (.d x) M):aj C base (.ak f) args M K KP:=⟨ds,h1,x,h2▸hp,hK⟩
theorem ap6 {x:DV}:PV.one (.d x)=x.one:=rfl
theorem amj {k:IntKind}{n:Int}:DV.one (.int k n)=true:=rfl
theorem aj9 {b:Bool}:DV.one (.bool b)=true:=rfl
theorem aml {s:ByteArray}:DV.one (.str s)=true:=rfl
theorem ahM {ex:Bool}{xs:List DV}:DV.one (.slice ex xs)=true:=rfl
theorem amk {r:Option (List (DV×DV))}:DV.one (.map r)=true:=rfl
end
inductive Ty where
 |int (k:IntKind)
 |bool
 |str
 |slice (e:Ty)
 |struct (fs:List Ty)
mutual
def Ty.size:Ty→Nat
 | .struct fs=>RS fs
 | _=>1
def RS:List Ty→Nat
 | []=>0
 |t::ts=>t.size+RS ts
end
def Ty.wR:Ty→Bool
 | .int .i64=>true
 | .struct (.int .i64::_)=>true
 | _=>false
def Ty.isStruct:Ty→Bool
 | .struct _=>true
 | _=>false
def Shp (e:Ty)(x:DV):Prop:=(e.isStruct=true→∃cs,x= .agg cs)∧(e.isStruct=false→x.cells=[x])
inductive Has:Ty→List DV→Prop
 |int {k:IntKind} {n:Int} (h:(Lit.int k n).wf=true):Has (.int k) [.int k n]
 |bool {b:Bool}:Has .bool [.bool b]
 |str {s:ByteArray} (h:s.size≤maxLen):Has .str [.str s]
 |slice {e:Ty} {xs:List DV} (h:∀x∈xs,Has e x.cells) (h':∀x∈xs,Shp e x):Has (.slice e) [.slice false xs]
 |nil:Has (.struct []) []
 |cons {t:Ty} {ts:List Ty} {ds es:List DV} (h:Has t ds) (h':Has (.struct ts) es):Has (.struct (t::ts)) (ds++es)
mutual
def F7 (P:Program):Ty→TypeId→Bool
 | .int k,t=>(match P.underlying t with|some (.int k')=>decide (k'=k)| _=>false)&&P.cellsOf t==1
 | .bool,t=>(match P.underlying t with|some .bool=>true| _=>false)&&P.cellsOf t==1
 | .str,t=>(match P.underlying t with|some .string=>true| _=>false)&&P.cellsOf t==1
 | .slice e,t=>(match P.underlying t with|some (.slice u)=>F7 P e u&&e.wR| _=>false)&&P.cellsOf t==1
 | .struct fs,t=>(match P.underlying t with|some (.struct gs)=>Zj P fs gs.toList 0| _=>false)&&P.cellsOf t==RS fs
def Zj (P:Program):List Ty→List Field→Nat→Bool
 | [],[],_=>true
 |t::ts,g::gs,off=>F7 P t g.type&&decide (g.offset=off)&&Zj P ts gs (off+t.size)
 | _,_,_=>false
end
theorem Zi {P:Program}:∀{T:Ty} {t:TypeId},F7 P T t=true→P.cellsOf t=T.size
 | .int k,t,h=>by simp[F7]at h;simp[Ty.size,h.2]
 | .bool,t,h=>by simp[F7]at h;simp[Ty.size,h.2]
 | .str,t,h=>by simp[F7]at h;simp[Ty.size,h.2]
 | .slice e,t,h=>by simp[F7]at h;simp[Ty.size,h.2]
 | .struct fs,t,h=>by simp[F7]at h;simp[Ty.size,h.2]
theorem aam:∀{e:Ty},e.wR=true→0<e.size
 | .int k,_=>by simp[Ty.size]
 | .struct (t::ts),h=>by
  cases t with
  |int k=>simp only[Ty.size,RS];omega
  | _=>simp[Ty.wR]at h
 | .bool,_=>by simp[Ty.size]
 | .str,_=>by simp[Ty.size]
 | .slice _,_=>by simp[Ty.size]
 | .struct [],h=>by simp[Ty.wR]at h
theorem abS:∀{T:Ty} {ds:List DV},Has T ds→ds.length=T.size:=by
 intro T ds h
 induction h with
 |cons h h' ih ih'=>simp only[List.length_append,Ty.size,RS]at*;omega
 | _=>simp[Ty.size,RS]
theorem Qw {e:Ty}{ds:List DV}(he:e.wR=true)(h:Has e ds):∃n,ds[0]?=some (.int .i64 n):=by
 cases h with
 |int h=>rename_i k n;cases k<;>simp[Ty.wR]at he;exact⟨n,rfl⟩
 |cons h h'=>
  rename_i t ts ds es
  cases h with
  |int h=>rename_i k n;cases k<;>simp[Ty.wR]at he;exact⟨n,rfl⟩
  | _=>simp[Ty.wR]at he
 | _=>simp[Ty.wR]at he
section
variable {H:Type}{enc:TypeId×Value→H}{P:Program}{w:World}{base:Nat}{spare:Nat→Bool}{held:Bool}{O:Nat→Prop}
theorem cells_at {a:Addr}{n:Nat}{cs:List Value}(h:w.cells? base a n=some cs)(hn:0<n):∃c T fz,a.spot=none∧w.heap[a.block]?=some (.cells c T fz)∧(c.toList.drop a.off).take n=cs:=by
 obtain⟨_,hl,hg⟩:=World.cells?_some h
 have h0:=hg 0 hn
 have hc0:cs[0]?=some cs[0]:=List.getElem?_eq_getElem (by omega)
 rw[hc0]at h0
 obtain⟨blk,off,spot⟩:=a
 have hsp:spot=none:=by
  cases spot with
  |none=>rfl
  |some q=>simp only[World.cell?,Addr.add]at h0;split at h0<;>simp at h0
 subst hsp
 simp only[Addr.add_lit]at hg h0
 cases hb:w.heap[blk]? with
 |none=>simp[World.cell?,hb]at h0
 |some o=>
  cases o with
  |cells c T fz=>
   refine⟨c,T,fz,rfl,rfl,?_⟩
   have hg':∀i,i<n→c[off+i]?=cs[i]?:=fun i hi=>by
    have:=hg i hi
    rwa [cell_of_row w blk (off+i) c T fz hb]at this
   apply List.ext_getElem?
   intro i
   by_cases hi:i<n
   ·rw[List.getElem?_take,if_pos hi,List.getElem?_drop,Array.getElem?_toList]
    exact hg' i hi
   ·rw[List.getElem?_take,if_neg hi,List.getElem?_eq_none (by omega)]
  | _=>simp[World.cell?,hb]at h0
theorem pieces {c:Array Value}{off sz:Nat}{e:Ty}(hsz:e.size=sz):∀(k:Nat),(∀i,i<k→∃x:DV,Has e x.cells∧Shp e x∧aQ w O ((c.toList.drop (off+i*sz)).take sz) x.cells)→
  ∃xs:List DV,xs.length=k∧(∀x∈xs,Has e x.cells)∧(∀x∈xs,Shp e x)∧aQ w O ((c.toList.drop off).take (k*sz)) (flat xs)
 |0,_=>⟨[],rfl,fun x hx=>by simp at hx,fun x hx=>by simp at hx,by simpa[flat]using .nil⟩
 |k+1,h=>by
  obtain⟨xs,h1,h2,h3,h4⟩:=pieces hsz k fun i hi=>h i (by omega)
  obtain⟨x,g1,g2,g3⟩:=h k (by omega)
  refine⟨xs++ [x],by simp[h1],?_,?_,?_⟩
  ·intro y hy
   rcases List.mem_append.1 hy with hy|hy
   ·exact h2 y hy
   ·simp at hy;subst hy;exact g1
  ·intro y hy
   rcases List.mem_append.1 hy with hy|hy
   ·exact h3 y hy
   ·simp at hy;subst hy;exact g2
  ·have e1:(c.toList.drop off).take ((k+1)*sz)=(c.toList.drop off).take (k*sz)++(c.toList.drop (off+k*sz)).take sz:=by
    rw[Nat.add_mul,Nat.one_mul,List.take_add,List.drop_drop]
   rw[e1,zV]
   refine h4.append ?_
   simpa[flat]using g3
mutual
theorem aaN (hO:∀b,O b→∀c T fz,w.heap[b]?=some (.cells c T fz)→∀(i:Nat) (n:Int),c[i]?≠some (.int .i64 n)):∀(T:Ty) (fuel:Nat) (t:TypeId) (cs:List Value) (x:DataW H×List MemPlace),F7 P T t=true→
  DataW.trod enc P w base spare held fuel t cs=some x→∃ds,Has T ds∧aQ w O cs ds
 | .int k,fuel,t,cs,x,hok,h=>by
  simp only[F7,Bool.and_eq_true]at hok
  obtain⟨hok,_⟩:=hok
  split at hok
  ·rename_i k' hk
   simp only[decide_eq_true_eq]at hok
   subst hok
   cases fuel with
   |zero=>simp[DataW.trod]at h
   |succ fuel=>
    unfold DataW.trod at h
    rw[hk]at h
    split at h<;>simp_all
    obtain⟨⟨rfl,hw⟩,_⟩:=h
    exact⟨_, .int hw, .cons (.int _ _) .nil⟩
  ·cases hok
 | .bool,fuel,t,cs,x,hok,h=>by
  simp only[F7,Bool.and_eq_true]at hok
  obtain⟨hok,_⟩:=hok
  split at hok
  ·rename_i hk
   cases fuel with
   |zero=>simp[DataW.trod]at h
   |succ fuel=>
    unfold DataW.trod at h
    rw[hk]at h
    split at h<;>simp_all
    exact⟨_, .bool, .cons (.bool _) .nil⟩
  ·cases hok
 | .str,fuel,t,cs,x,hok,h=>by
  simp only[F7,Bool.and_eq_true]at hok
  obtain⟨hok,_⟩:=hok
  split at hok
  ·rename_i hk
   cases fuel with
   |zero=>simp[DataW.trod]at h
   |succ fuel=>
    unfold DataW.trod at h
    rw[hk]at h
    split at h<;>simp_all
    exact⟨_, .str h.1, .cons (.str _) .nil⟩
  ·cases hok
 | .slice e,fuel,t,cs,x,hok,h=>by
  simp only[F7,Bool.and_eq_true]at hok
  obtain⟨hok,_⟩:=hok
  split at hok
  ·rename_i u hk
   simp only[Bool.and_eq_true]at hok
   obtain⟨hu,hint⟩:=hok
   have hsz:=Zi hu
   have hpos:=aam hint
   rcases Go.Deep.open_slice hk h with⟨rfl,_⟩|⟨a,len,cap,m,n,D,Pl,rfl,_,hcap,_,hm,_,hel⟩
   ·exact⟨_, .slice (xs:=[]) (fun x hx=>by simp at hx) (fun x hx=>by simp at hx), .cons (.empty (fun hh=>by cases hh)) .nil⟩
   ·have hlm:len≤m:=by rw[hm];split<;>omega
    rw[hsz]at hel
    have hpc:∀i,i<len→∃cs',w.cells? base (a.add (i*e.size)) e.size=some cs'∧∃ds,Has e ds∧aQ w O cs' ds:=by
     intro i hi
     obtain⟨cs',hc1,hc2⟩:=hel i (by omega)
     exact⟨cs',hc1,aaN hO e n _ cs' _ hu hc2⟩
    by_cases h0:len=0
    ·subst h0
     exact⟨_, .slice (xs:=[]) (fun x hx=>by simp at hx) (fun x hx=>by simp at hx), .cons (.empty (fun hh=>by cases hh)) .nil⟩
    ·obtain⟨cs0,hc0,ds0,hd0,hr0⟩:=hpc 0 (by omega)
     rw[Nat.zero_mul]at hc0
     obtain⟨c,T,fz,hsp,hb,htk⟩:=cells_at hc0 hpos
     obtain⟨blk,off,spot⟩:=a
     simp only[Addr.add,if_true]at hsp hb htk
     subst hsp
     have hxs:=pieces (w:=w) (O:=O) (c:=c) (off:=off) (sz:=e.size) (e:=e) rfl len (fun i hi=>by
      obtain⟨cs',g1,ds,g2,g3⟩:=hpc i hi
      obtain⟨c',T',fz',_,hb',aoB⟩:=cells_at g1 hpos
      simp only[Addr.add_lit]at hb' aoB
      rw[hb]at hb'
      cases hb'
      cases hst:e.isStruct with
      |true=>
       refine⟨.agg ds,g2,⟨fun _=>⟨ds,rfl⟩,fun hh=>by rw[hst]at hh;cases hh⟩,?_⟩
       rw[aoB];exact g3
      |false=>
       have hone:e.size=1:=by cases e<;>simp_all[Ty.size,Ty.isStruct]
       have hl:=abS g2
       rw[hone]at hl
       obtain⟨d,rfl⟩:=List.length_eq_one_iff.1 hl
       have hdc:d.cells=[d]:=by
        obtain⟨n,hn⟩:=Qw hint g2
        simp at hn;subst hn;rfl
       refine⟨d,(by rw[hdc];exact g2),⟨fun hh=>(by rw[hst]at hh;cases hh),fun _=>hdc⟩,?_⟩
       rw[aoB,hdc];exact g3)
     obtain⟨xs,x1,x2,x3,x4⟩:=hxs
     refine⟨_, .slice x2 x3, .cons (.slice (sz:=e.size) hb ?_ x1 (fun x hx=>abS (x2 x hx)) hcap (fun hh=>by cases hh) x4) .nil⟩
     intro hOb
     obtain⟨n,hn⟩:=Qw hint hd0
     obtain⟨v,hv,hvr⟩:=hr0.get' 0 _ hn
     have hvi:=hvr.fA
     subst hvi
     have hcell:c[off]?=some (.int .i64 n):=by
      have h5:((c.toList.drop off).take e.size)[0]?=some (.int .i64 n):=by rw[htk];exact hv
      rw[List.getElem?_take,if_pos hpos,List.getElem?_drop,Array.getElem?_toList]at h5
      simpa using h5
     exact hO blk hOb c T fz hb off n hcell
  ·cases hok
 | .struct fs,fuel,t,cs,x,hok,h=>by
  simp only[F7,Bool.and_eq_true,beq_iff_eq]at hok
  obtain⟨hok,hsize⟩:=hok
  split at hok
  ·rename_i gs hk
   cases fuel with
   |zero=>simp[DataW.trod]at h
   |succ fuel=>
    unfold DataW.trod at h
    rw[hk]at h
    simp only at h
    split at h
    ·rename_i hlen
     rw[Option.map_eq_some_iff]at h
     obtain⟨ys,hys,_⟩:=h
     obtain⟨ds,h1,h2⟩:=ac6 hO fs fuel gs.toList 0 cs ys hok hys
     refine⟨ds,h1,?_⟩
     rw[List.drop_zero,List.take_of_length_le (by rw[hlen,hsize];exact Nat.le_refl _)]at h2
     exact h2
    ·cases h
  ·cases hok
theorem ac6 (hO:∀b,O b→∀c T fz,w.heap[b]?=some (.cells c T fz)→∀(i:Nat) (n:Int),c[i]?≠some (.int .i64 n)):∀(fs:List Ty) (fuel:Nat) (gs:List Field) (off:Nat) (cs:List Value) (ys:List (DataW H×List MemPlace)),Zj P fs gs off=true→
  (gs.mapM fun f=>DataW.trod enc P w base spare held fuel f.type ((cs.drop f.offset).take (P.cellsOf f.type)))=some ys→∃ds,Has (.struct fs) ds∧aQ w O ((cs.drop off).take (RS fs)) ds
 | [],fuel,[],off,cs,ys,_,_=>⟨[], .nil,by simpa[RS]using .nil⟩
 |T::fs,fuel,g::gs,off,cs,ys,hok,h=>by
  simp only[Zj,Bool.and_eq_true,decide_eq_true_eq]at hok
  obtain⟨⟨h1,h2⟩,h3⟩:=hok
  simp only[List.mapM_cons,Option.bind_eq_bind,Option.bind_eq_some_iff,Option.pure_def,Option.some.injEq]at h
  obtain⟨y,g1,zs,g2,_⟩:=h
  rw[h2,Zi h1]at g1
  obtain⟨ds,q1,q2⟩:=aaN hO T fuel g.type _ y h1 g1
  obtain⟨es,r1,r2⟩:=ac6 hO fs fuel gs (off+T.size) cs zs h3 g2
  refine⟨ds++es, .cons q1 r1,?_⟩
  simp only[RS]
  rw[List.take_add,List.drop_drop]
  exact q2.append r2
 | [],fuel,_::_,_,_,_,hok,_=>by simp[Zj]at hok
 | _::_,fuel,[],_,_,_,hok,_=>by simp[Zj]at hok
end
end
open Go.ChangeShapes Go.WideShapes Go.RowKit
def aiv (T:Ty)(d:DV):Prop:=Has T d.cells∧Shp T d
def Iu:List Ty→List DV→Prop
 | [],[]=>True
 |T::Ts,d::ds=>aiv T d∧Iu Ts ds
 | _,_=>False
def I9 (P:Program):List Ty→List TypeId→Bool
 | [],[]=>true
 |T::Ts,t::ts=>F7 P T t&&I9 P Ts ts
 | _,_=>false
theorem alO {T:Ty}{ds:List DV}(h:Has T ds)(hs:T.isStruct=false):∃x,ds=[x]∧x.cells=[x]:=by
 cases h with
 |nil=>cases hs
 |cons=>cases hs
 | _=>exact⟨_,rfl,rfl⟩
section
variable {H:Type}{enc:TypeId×Value→H}{P:Program}{w:World}{base:Nat}{spare:Nat→Bool}{held:Bool}{O:Nat→Prop}
theorem ako (hO:∀b,O b→∀c T fz,w.heap[b]?=some (.cells c T fz)→∀(i:Nat) (n:Int),c[i]?≠some (.int .i64 n)){T:Ty}{t:TypeId}{v:Value}{d:DataW H}{ps:List MemPlace}{r:Reach}{b0:Nat}
  (hok:F7 P T t=true)(hval:Value.okWide P w r b0 t v)(h:DataW.Trod enc P w base spare held t v d ps):∃x,aiv T x∧bf w O v x:=by
 obtain⟨fuel,hf⟩:=h
 obtain⟨ds,h1,h2⟩:=aaN hO T fuel t _ _ hok hf
 have one:T.isStruct=false→(∀cs,v≠ .agg cs)→∃x,aiv T x∧bf w O v x:=by
  intro hs hv
  obtain⟨x,rfl,hx⟩:=alO h1 hs
  have hc:v.cells= #[v]:=by cases v<;>first|rfl|(exact absurd rfl (hv _))
  rw[hc]at h2
  cases h2 with
  |cons g1 _=>
   exact⟨x,⟨by rw[hx];exact h1,⟨fun hh=>(by rw[hs]at hh;cases hh),fun _=>hx⟩⟩,g1⟩
 cases T with
 |int k=>
  simp only[F7,Bool.and_eq_true]at hok
  split at hok
  ·rename_i k' hk
   obtain⟨n,rfl⟩:=okWide_int hk hval
   exact one rfl fun cs hh=>by cases hh
  ·cases hok.1
 |bool=>
  simp only[F7,Bool.and_eq_true]at hok
  split at hok
  ·rename_i hk
   obtain⟨n,rfl⟩:=okWide_bool hk hval
   exact one rfl fun cs hh=>by cases hh
  ·cases hok.1
 |str=>
  simp only[F7,Bool.and_eq_true]at hok
  split at hok
  ·rename_i hk
   obtain⟨n,rfl⟩:=okWide_string hk hval
   exact one rfl fun cs hh=>by cases hh
  ·cases hok.1
 |slice e=>
  simp only[F7,Bool.and_eq_true]at hok
  split at hok
  ·rename_i u hk
   obtain⟨a,len,cap,rfl⟩:=okWide_slice hk hval
   exact one rfl fun cs hh=>by cases hh
  ·cases hok.1
 |struct fs=>
  simp only[F7,Bool.and_eq_true]at hok
  split at hok
  ·rename_i gs hk
   obtain⟨cs,rfl,_⟩:=okWide_struct hk hval
   exact⟨.agg ds,⟨h1,⟨fun _=>⟨ds,rfl⟩,fun hh=>(by cases hh)⟩⟩, .agg h2⟩
  ·cases hok.1
theorem ac5 (hO:∀b,O b→∀c T fz,w.heap[b]?=some (.cells c T fz)→∀(i:Nat) (n:Int),c[i]?≠some (.int .i64 n)){r:Reach}{b0:Nat}:∀{Ts:List Ty} {ts:List TypeId} {vs:List Value} {ds:List (DataW H)} {ps:List MemPlace},
  I9 P Ts ts=true→(∀(j:Nat) t v,ts[j]?=some t→vs[j]?=some v→Value.okWide P w r b0 t v)→DataW.TrodAll enc P w base spare held ts vs ds ps→∃xs,Iu Ts xs∧aQ w O vs xs
 | [],[],[],[],_,_,_,_=>⟨[],trivial, .nil⟩
 |T::Ts,t::ts,v::vs,d::ds,ps,hok,hv,h=>by
  simp only[I9,Bool.and_eq_true]at hok
  obtain⟨p,q,h1,h2,_⟩:=h
  obtain⟨x,g1,g2⟩:=ako hO hok.1 (hv 0 t v rfl rfl) h1
  obtain⟨xs,g3,g4⟩:=ac5 hO hok.2 (fun j t' v' ht hv'=>hv (j+1) t' v' (by simpa using ht) (by simpa using hv')) h2
  exact⟨x::xs,⟨g1,g3⟩, .cons g2 g4⟩
 | [],_::_,_,_,_,hok,_,_=>by simp[I9]at hok
 | _::_,[],_,_,_,hok,_,_=>by simp[I9]at hok
 | [],[],_::_,_,_,_,_,h=>by cases h
 | [],[],[],_::_,_,_,_,h=>by cases h
 | _::_,_::_,[],_,_,_,_,h=>by cases h
 | _::_,_::_,_::_,[],_,_,_,h=>by cases h
theorem acg {w':World}(h:Later w w'):Below w.heap.size w w':=⟨h.os,h.tape,h.output,h.size,h.keep⟩
theorem ahA {C:Ctx}{f:FuncId}{Ts:List Ty}{ts:List TypeId}{args:Array Value}{ds:List (DataW H)}{ps:List MemPlace}{r:Reach}{b0:Nat}
  (hP:C.P=P)(hG:C.G w)(hlow:∀b,C.low b→b<w.heap.size∧∀c T fz,w.heap[b]?=some (.cells c T fz)→∀(i:Nat) (n:Int),c[i]?≠some (.int .i64 n))
  (hok:I9 P Ts ts=true)(hv:∀(j:Nat) t v,ts[j]?=some t→args.toList[j]?=some v→Value.okWide P w r b0 t v)(h:DataW.TrodAll enc P w base spare held ts args.toList ds ps)
  (aeJ:∀xs,Iu Ts xs→Pure C f xs (.d (.bool true)) []):Calls P f args w fun e w'=>e= .returned (.bool true)∧Below w.heap.size w w':=by
 obtain⟨xs,h1,h2⟩:=ac5 (O:=C.low) (fun b hb=>(hlow b hb).2) hok hv h
 have:=aeJ xs h1 C.low w args.toList hG (fun b hb=>hb) (fun b hb=>(hlow b hb).1) h2
 rw[hP,Array.toArray_toList]at this
 refine Calls.mono this fun e w' he=> ?_
 obtain⟨v,E',rfl,hS,hF,hr⟩:=he
 have hvb:=hr.toD.pO
 subst hvb
 exact⟨rfl,acg hF.Nl⟩
theorem OT {w':World}(hl:laidOutB P=true)(hb:Below w.heap.size w w'):∀{ts:List TypeId} {vs:List Value} {ds:List (DataW H)} {ps:List MemPlace},(∀t∈ts,P.readableRec t=true∧t<P.types.size)→
  DataW.TrodAll enc P w 0 (fun _=>true) true ts vs ds ps→(∀x∈ps,x.block<w.heap.size)→DataW.TrodAll enc P w' 0 (fun b=>decide (b<w.heap.size)) true ts vs ds ps
 | [],[],[],_,_,h,_=>h
 |t::ts,v::vs,d::ds,ps,ht,h,hlt=>by
  obtain⟨p,q,h1,h2,rfl⟩:=h
  obtain⟨a,b⟩:=ht t (by simp)
  exact⟨p,q,Below.trod hl a b h1 hb (fun x hx=>hlt x (by simp[hx])),OT hl hb (fun t' ht'=>ht t' (by simp[ht'])) h2 (fun x hx=>hlt x (by simp[hx])),rfl⟩
 | [],_::_,_,_,_,h,_=>by cases h
 | [],[],_::_,_,_,h,_=>by cases h
 | _::_,[],_,_,_,h,_=>by cases h
 | _::_,_::_,[],_,_,h,_=>by cases h
theorem ajO {f:Func}{s:ChangeSpec}{apart fresh handsOn:Bool}{w':World}{args:Array Value}{ds:List (DataW H)}{before:List MemPlace}{tb:TypeId}(hl:laidOutB P=true)(hvars:s.vars=[])
  (hW:DataW.Whole enc P f.params.toList s.vars apart w args.toList ds [] before)(hres:f.resultTypes= #[tb])(htb:P.underlying tb=some .bool)(hts:∀t∈f.params.toList,P.readableRec t=true∧t<P.types.size)
  (hfn:s.fn H (ds++ [])={results:=[.lit (.bool true)],args:=ds})(hb:Below w.heap.size w w'):s.post enc P f apart fresh handsOn false w args (.bool true) w':=by
 have hW':=hW
 obtain⟨p,q,hA,hV,rfl,_,_⟩:=hW
 have hq:q=[]:=by rw[hvars]at hV;exact hV
 subst hq
 refine⟨ds,[],p++ [],[],p,[],hW',?_,?_,?_,hb.frame _,fun h=>by cases h⟩
 ·rw[hfn,hres]
  exact trodAll_mk1 (shut_bool htb true)
 ·rw[hfn]
  exact OT hl hb hts hA fun x hx=>hW'.lt x (by simp[hx])
 ·rw[hfn,hvars];rfl
end
theorem acj {n m:Nat}:∀{env:List (Nat×PV)},(env.all fun p=>p.2.upto n m)=true→∀t,(look env t).upto n m=true
 | [],_,t=>by simp[look,PV.upto]
 |(k,v)::l,h,t=>by
  simp only[List.all_cons,Bool.and_eq_true]at h
  simp only[look]
  cases hk:(k==t)with
  |true=>simpa using h.1
  |false=>simpa using acj h.2 t
theorem Weak.take {nb na n m:Nat}{env:List (Nat×PV)}{bs:List (Option (List PV))}{fz:List Nat}{as:List (Option Arr)}(h1:nb≤n)(h2:na≤m)(h3:(env.all fun p=>p.2.upto n m)=true)
  (h4:((bs.take n).all fun c=>(c.getD []).all fun p=>p.upto n m)=true):Weak nb na ⟨env,⟨bs,fz,as⟩⟩ ⟨env,⟨bs.take n,fz.filter (fun b=>decide (b<n)),as.take m⟩⟩:=by
 refine .inr ⟨n,m,h1,h2,rfl,fun t=> .inr ⟨rfl,acj h3 t⟩,fun cs hcs c hc=> ?_⟩
 simp only[List.all_eq_true]at h4
 exact h4 cs hcs c hc
theorem Weak.same {nb na:Nat}{env:List (Nat×PV)}{bs:List (Option (List PV))}{fz:List Nat}{as:List (Option Arr)}(h1:nb≤bs.length)(h2:na≤as.length)(h3:(env.all fun p=>p.2.upto bs.length as.length)=true)
  (h4:(bs.all fun c=>(c.getD []).all fun p=>p.upto bs.length as.length)=true):Weak nb na ⟨env,⟨bs,fz,as⟩⟩ ⟨env,⟨bs,fz.filter (fun b=>decide (b<bs.length)),as⟩⟩:=by
 have:=Weak.take (fz:=fz) (as:=as) h1 h2 h3 (by rw[List.take_length];exact h4)
 simpa using this
section
variable {C:Ctx}{base:Nat}{M:Mem}{K:PV→Mem→Prop}{KP:DV→Mem→Prop}
theorem ajg {sz:Nat}:aj C base (.iH sz [] []) [] M K KP=K (.d (.slice true [])) M:=by
 have:=KU (M:=M) (ds:=[])
 simp only[List.map_nil]at this
 simp only[aj,dD,List.map_nil,zU,this]
theorem jZ {sz:Nat}{z x:DV}:aj C base (.iH sz [z] [0]) [.d x] M K KP=(x.strip.cells.length=sz∧K (.d (.slice true [x.strip])) M):=by
 have:=KU (M:=M) (ds:=[x])
 simp only[List.map_cons,List.map_nil]at this
 simp only[aj,dD,datum,List.map_cons,List.map_nil,zU,this,List.length_singleton,Nat.zero_lt_one,and_true]
 by_cases h:x.strip.cells.length=sz
 ·simp[h]
 ·simp[h]
theorem ame {bs:List (Option (List PV))}{fz:List Nat}{as:List (Option Arr)}{k s:Nat}{A:Arr}(h:as[k]?=some (some A)):mkRow ⟨bs,fz,as⟩ (k,s)=⟨A.sz,A.elems.drop s,0,A.st⟩:=by simp only[mkRow,h]
theorem FN {bs:List (Option (List PV))}{fz:List Nat}{as:List (Option Arr)}{k ver s:Nat}{A:Arr}(h:as[k]?=some (some A))(hv:A.ver=ver)(hs:s≤A.elems.length){A':Arr}(hA:A'=⟨A.sz,A.elems.drop s,0,A.st⟩):
  ∃L,Fz ⟨bs,fz,as⟩ L∧ren ⟨bs,fz,as⟩ L (.tsl k ver s)= .tsl 0 0 0∧L.map (mkRow ⟨bs,fz,as⟩)=[A']:=by
 refine⟨[(k,s)],⟨fun q hq=> ?_,by simp⟩,?_,?_⟩
 ·simp only[List.mem_singleton]at hq
  subst hq
  simp only[Fv,h]
  simpa using hs
 ·simp[ren,XJ,Rf,Mem.row,h,hv]
 ·simp only[List.map_cons,List.map_nil,ame h,hA]
end
end Go.Am
namespace Go.Tel
open Go.Am
theorem aG {n:Int}(h: -9223372036854775808≤n∧n≤9223372036854775807):IntKind.i64.wrap n=n:=Go.IntWalk.i64_in _ (by omega)
structure Pt where
 x:Int
 y:Int
 deriving DecidableEq,Inhabited
structure Wh where
 V5:Int
 akF:Int
 layer:Int
 gW:Int
 deriving DecidableEq,Inhabited
structure Ms where
 a:Int
 b:Int
 deriving DecidableEq,Inhabited
structure Tn where
 num:Int
 den:Int
 deriving DecidableEq,Inhabited
structure Piece where
 w:Int
 h:Int
 pl:Int
 ga:Int
 po:Int
 cs:List Pt
 ws:List Wh
 ms:List Ms
 deriving DecidableEq,Inhabited
def ay (n:Int):DV:= .int .i64 n
def Pt.dv (p:Pt):DV:= .agg [.int .i64 p.x, .int .i64 p.y]
def Wh.dv (p:Wh):DV:= .agg [.int .i64 p.V5, .int .i64 p.akF, .int .i64 p.layer, .int .i64 p.gW]
def Ms.dv (p:Ms):DV:= .agg [.int .i64 p.a, .int .i64 p.b]
def Tn.dv (p:Tn):DV:= .agg [.int .i64 p.num, .int .i64 p.den]
def Piece.dv (p:Piece):DV:= .agg [.int .i64 p.w, .int .i64 p.h, .int .i64 p.pl, .int .i64 p.ga, .int .i64 p.po, .slice false (p.cs.map Pt.dv), .slice false (p.ws.map Wh.dv), .slice false (p.ms.map Ms.dv)]
theorem aV {n:Int}:ay n= .int .i64 n:=by rw[ay]
structure Laid where
 p:Piece
 mm:List Ms
 gone:List Int
 deriving Inhabited
def Laid.dv (l:Laid):DV:=
 .agg [.int .i64 l.p.w, .int .i64 l.p.h, .int .i64 l.p.pl, .int .i64 l.p.ga, .int .i64 l.p.po, .slice false (l.p.cs.map Pt.dv), .slice false (l.p.ws.map Wh.dv), .slice false (l.p.ms.map Ms.dv),
  .map (some (l.mm.map fun m=>(m.dv, .bool true))), .slice false (l.gone.map ay)]
theorem getD_map {α:Type}[Inhabited α]{f:α→DV}{l:List α}{i:Nat}(h:i<l.length):(l.map f).getD i default=f (l.getD i default):=by
 rw[List.getD_eq_getElem?_getD,List.getD_eq_getElem?_getD,List.getElem?_map,List.getElem?_eq_getElem h];rfl
theorem drop_cons {α:Type}[Inhabited α]{l:List α}{i:Nat}(h:i<l.length):l.drop i=l.getD i default::l.drop (i+1):=by
 rw[List.drop_eq_getElem_cons h];simp[List.getD,h]
def inR (n l h:Int):Bool:=decide (n≥l)&&decide (n≤h)
def ank (w h:Int):List Pt→List Pt→Bool
 | _,[]=>true
 |pre,c::cs=>inR c.x 0 w&&inR c.y 0 h&& !pre.contains c&&ank w h (pre++ [c]) cs
def ani (n:Int):List Ms→List Ms→Bool
 | _,[]=>true
 |pre,m::ms=>inR m.a 0 (n - 1)&&inR m.b 0 (n - 1)&& !decide (m.a≥m.b)&& !pre.contains m&&ani n (pre++ [m]) ms
def arn (n:Int)(w:Wh):Bool:=inR w.V5 0 (n - 1)&&inR w.akF 0 2&&inR w.layer 0 5&&inR w.gW 4 50
def Piece.aoo (p:Piece):Bool:=inR p.w 1 120&&inR p.h 1 120&&inR p.pl 0 4&&inR p.ga 0 4&&inR p.po 0 3
def Piece.aoI (p:Piece):Bool:=inR p.cs.length 1 6&& !decide ((p.ws.length:Int)>8)&& !decide ((p.ms.length:Int)>10)
def Piece.ok (p:Piece):Bool:=p.aoo&&p.aoI&&ank p.w p.h [] p.cs&&ani p.ws.length [] p.ms&&p.ws.all (arn p.cs.length)
def Piece.wh (p:Piece)(a:Int):Wh:=p.ws.getD a.toNat default
def Piece.pt (p:Piece)(a:Int):Pt:=p.cs.getD (p.wh a).V5.toNat default
def sq (n:Int):Int:=n*n
def Piece.mesh (p:Piece)(a b:Int):Bool:=p.ms.contains ⟨min a b,max a b⟩
def Piece.far (p:Piece)(a b:Int):Int:=sq ((p.pt a).x - (p.pt b).x)+sq ((p.pt a).y - (p.pt b).y)
def Piece.sum (p:Piece)(a b:Int):Int:=(p.wh a).gW+(p.wh b).gW
def Piece.afN (p:Piece)(a b:Int):Bool:=(p.wh a).V5==(p.wh b).V5
def Piece.level (p:Piece)(a b:Int):Bool:=(p.wh a).layer==(p.wh b).layer
def Piece.apart (p:Piece)(a b:Int):Bool:=
 p.mesh a b&&(!p.level a b||p.afN a b||decide (p.far a b<sq (p.sum a b))||decide (p.far a b>sq (p.sum a b+p.pl)))
def Piece.same (p:Piece)(a b:Int):Bool:=p.afN a b&&p.level a b
def Piece.post (p:Piece)(a b:Int):Bool:=decide ((p.wh a).layer≤(p.wh b).layer)&&decide (p.far a b<sq ((p.wh a).gW+p.po))
end Go.Tel
namespace Go.Am
section
variable {C:Ctx}{base nb na:Nat}{K:St→Prop}{KP:DV→Mem→Prop}{Q:Ex→St→Prop}{env:List (Nat×PV)}{m:Mem}
theorem bJ {d:Option Nat}{op:POp}{args:List Opd}{fl t:Nat}{w b:Bool}(hb:look env t= .d (.bool b))(h1:b=true→fU C base ⟨d,op,args,some (t,w),fl⟩ K KP ⟨env,m⟩)(h0:b=false→fU C base ⟨d,op,args,some (t,w),fl⟩ K KP ⟨env,m⟩):
  fU C base ⟨d,op,args,some (t,w),fl⟩ K KP ⟨env,m⟩:=by cases b;exact h0 rfl;exact h1 rfl
theorem bZ {t:Nat}{x y:aB}{b:Bool}(hb:look env t= .d (.bool b))(h1:b=true→pwp C nb na (.cond (.t t) x y) Q ⟨env,m⟩)(h0:b=false→pwp C nb na (.cond (.t t) x y) Q ⟨env,m⟩):
  pwp C nb na (.cond (.t t) x y) Q ⟨env,m⟩:=by cases b;exact h0 rfl;exact h1 rfl
variable {s:St}{bs:List (Option (List PV))}{fz:List Nat}{as:List (Option Arr)}
def upJ {α:Type}(len:Nat)(E:Nat→α→St)(P:Nat→α→Prop):Nat→St→Prop:=fun n s=>∃i a,i≤len∧n=len - i∧s=E i a∧P i a
theorem aT {b:aB}{α:Type}(len:Nat)(E:Nat→α→St)(P:Nat→α→Prop)(i0:Nat)(a0:α)(hi:i0≤len)(hs:s=E i0 a0)(h0:P i0 a0)
  (hr:∀i a,i<len→P i a→pwp C nb na b (Uz nb na (upJ len E P) (len - i) Q) (E i a))
  (he:∀a,P len a→pwp C nb na b (Uz nb na (upJ len E P) 0 Q) (E len a)):pwp C nb na (.loop b) Q s:=by
 refine H8 (upJ len E P) (len - i0) ⟨i0,a0,hi,rfl,hs,h0⟩ ?_
 rintro n s ⟨i,a,hi,rfl,rfl,hP⟩
 by_cases h:i<len
 ·exact hr i a h hP
 ·obtain rfl:i=len:=by omega
  have:=he a hP
  rwa [←Nat.sub_self i]at this
theorem nR {α:Type}{len i:Nat}{E:Nat→α→St}{P:Nat→α→Prop}(a':α)(hi:i<len)(hs:(⟨env,⟨bs,fz.filter (fun b=>decide (b<bs.length)),as⟩⟩:St)=E (i+1) a')(hP:P (i+1) a')
  (h1:nb≤bs.length)(h2:na≤as.length)(h3:(env.all fun p=>p.2.upto bs.length as.length)=true)(h4:(bs.all fun c=>(c.getD []).all fun p=>p.upto bs.length as.length)=true):
  ∃n' s'',n'<len - i∧Weak nb na ⟨env,⟨bs,fz,as⟩⟩ s''∧upJ len E P n' s'':=⟨len - (i+1),_,by omega,Weak.same h1 h2 h3 h4,i+1,a',by omega,rfl,hs,hP⟩
theorem jR {α:Type}{len i:Nat}{E:Nat→α→St}{P:Nat→α→Prop}(n m:Nat)(a':α)(hi:i<len)(hs:(⟨env,⟨bs.take n,fz.filter (fun b=>decide (b<n)),as.take m⟩⟩:St)=E (i+1) a')(hP:P (i+1) a')
  (h1:nb≤n)(h2:na≤m)(h3:(env.all fun p=>p.2.upto n m)=true)(h4:((bs.take n).all fun c=>(c.getD []).all fun p=>p.upto n m)=true):
  ∃n' s'',n'<len - i∧Weak nb na ⟨env,⟨bs,fz,as⟩⟩ s''∧upJ len E P n' s'':=⟨len - (i+1),_,by omega,Weak.take h1 h2 h3 h4,i+1,a',by omega,rfl,hs,hP⟩
def whJ {α:Type}(E:α→St)(P:α→Prop)(μ:α→Nat):Nat→St→Prop:=fun n s=>∃a,n=μ a∧s=E a∧P a
theorem qR {b:aB}{α:Type}(E:α→St)(P:α→Prop)(μ:α→Nat)(a0:α)(hs:s=E a0)(h0:P a0)
  (hr:∀a,P a→pwp C nb na b (Uz nb na (whJ E P μ) (μ a) Q) (E a)):pwp C nb na (.loop b) Q s:=by
 refine H8 (whJ E P μ) (μ a0) ⟨a0,rfl,hs,h0⟩ ?_
 rintro n s ⟨a,rfl,rfl,hP⟩
 exact hr a hP
theorem aa1 {α:Type}{a:α}{E:α→St}{P:α→Prop}{μ:α→Nat}(a':α)(hn:μ a'<μ a)(hs:(⟨env,⟨bs,fz.filter (fun b=>decide (b<bs.length)),as⟩⟩:St)=E a')(hP:P a')
  (h1:nb≤bs.length)(h2:na≤as.length)(h3:(env.all fun p=>p.2.upto bs.length as.length)=true)(h4:(bs.all fun c=>(c.getD []).all fun p=>p.upto bs.length as.length)=true):
  ∃n' s'',n'<μ a∧Weak nb na ⟨env,⟨bs,fz,as⟩⟩ s''∧whJ E P μ n' s'':=⟨μ a',_,hn,Weak.same h1 h2 h3 h4,a',rfl,hs,hP⟩
def aoT {α:Type}(o:Option α)(k:α→Prop):Prop:=match o with|some x=>k x|none=>False
theorem ahO {α:Type}{x:α}{k:α→Prop}:aoT (some x) k=k x:=rfl
def aiA (o:Option (List DV))(cs:List PV):PV:=match o with|some ds=> .d (.agg ds)|none=> .agg cs
def afy (o:Option (List DV))(cs:List PV):PV:=match o with|some ds=> .d (.tup ds)|none=> .tup cs
theorem amd {cs:List PV}:G5 cs=aiA (jd cs) cs:=rfl
theorem amf {cs:List PV}:QE cs=afy (jd cs) cs:=rfl
theorem agv {ds:List DV}{cs:List PV}:aiA (some ds) cs= .d (.agg ds):=rfl
theorem aii {ds:List DV}{cs:List PV}:afy (some ds) cs= .d (.tup ds):=rfl
section
variable {M:Mem}{L:PV→Mem→Prop}
theorem ahg {zs:List DV}{ps:List (Nat×Nat)}{args:List PV}:aj C base (.build zs ps) args M L KP=aoT (nV (zs.map .d) ps args) (fun cs=>L (G5 cs) M):=by
 rw[ajd];cases nV (zs.map .d) ps args<;>rfl
theorem ahl {cs:List PV}:nV cs [] []=some cs:=rfl
theorem Nh {cs:List PV}{off n:Nat}{ps:List (Nat×Nat)}{x:DV}{vs:List PV}:nV cs ((off,n)::ps) (.d x::vs)=bif (PV.cells (.d x)).length==n&&decide (off+n≤cs.length)then nV (splice cs off (PV.cells (.d x))) ps vs else none:=by
 simp only[nV,PV.wS,true_and]
 by_cases h1:(PV.cells (.d x)).length=n
 ·by_cases h2:off+n≤cs.length
  ·rw[if_pos ⟨h1,h2⟩];simp[h1,h2]
  ·rw[if_neg (fun h=>h2 h.2)];simp[h1,h2]
 ·rw[if_neg (fun h=>h1 h.1)]
  have:((PV.cells (.d x)).length==n)=false:=by simpa using h1
  rw[this];rfl
theorem alr {i:Nat}{vs:List DV}:aj C base (.ext i) [.d (.tup vs)] M L KP=aoT vs[i]? (fun v=>L (.d v) M):=by
 simp only[aj];cases vs[i]?<;>rfl
end
theorem abr {f:Fn}{a b:List DV}:PV.cells (.d (.func f a b))=[.d (.func f a b)]:=rfl
theorem al4 {cs:List DV}:PV.isAgg (.d (.agg cs))=true:=rfl
theorem rng {i len:Nat}(h:i<len)(hl:len≤1000000):(i:Int)<(len:Int)∧(0:Int)≤(i:Int)∧IntKind.i64.wrap ((i:Int)+1)=((i+1:Nat):Int):=by
 refine⟨by omega,by omega,?_⟩
 rw[Go.IntWalk.i64_in _ (by omega)];omega
end
theorem amD {k:Nat}:Dy k []=[]:=by rw[Dy]
theorem amE {k:Nat}{v:PV}{vs:List PV}:Dy k (v::vs)=(k,v)::Dy (k+1) vs:=by rw[Dy]
theorem amy {rs:List aJ}{K:PV→Mem→Prop}{KP:DV→Mem→Prop}{s:St}:aem rs K KP .normal s=qI rs s (fun vs=>K (resV vs) s.mem):=propext ⟨id,id⟩
theorem amA {rs:List aJ}{K:PV→Mem→Prop}{KP:DV→Mem→Prop}{s:St}:aem rs K KP .ret s=qI rs s (fun vs=>K (resV vs) s.mem):=propext ⟨id,id⟩
theorem amB {rs:List aJ}{K:PV→Mem→Prop}{KP:DV→Mem→Prop}{s:St}{d:DV}:aem rs K KP (.panic d) s=KP d s.mem:=propext ⟨id,id⟩
theorem amC {rs:List aJ}{K:PV→Mem→Prop}{KP:DV→Mem→Prop}{s:St}{i:Nat}:aem rs K KP (.exit i) s=False:=propext ⟨id,id⟩
theorem amF {s:St}{K:List PV→Prop}:qI [] s K=K []:=propext ⟨id,id⟩
theorem amG {s:St}{K:List PV→Prop}{t:Nat}{l:List aJ}:qI (.tmp t::l) s K=qI l s (fun vs=>K (look s.env t::vs)):=propext ⟨id,id⟩
theorem amH {s:St}{K:List PV→Prop}{t n:Nat}{g:Bool}{l:List aJ}:qI (.cell t g n::l) s K=bQ g n (look s.env t) s.mem (fun v=>qI l s fun vs=>K (v::vs)):=propext ⟨id,id⟩
theorem ap8:resV []=QE []:=by rw[resV];intro x h;cases h
theorem ap9 {x:PV}:resV [x]=x:=by rw[resV]
theorem aqa {x y:PV}{l:List PV}:resV (x::y::l)=QE (x::y::l):=by rw[resV];intro x h;cases h
theorem ahZ {α:Type}{cs:List α}{off:Nat}{new:List α}:splice cs off new=cs.take off++new++cs.drop (off+new.length):=by rw[splice]
set_option linter.defProp false in
def RN:=And.intro (And.intro (And.intro (And.intro (And.intro (And.intro (And.intro (@akm) (And.intro (@ahT) (@amq))) (And.intro (@akl) (And.intro (@ahU) (@amr)))) (And.intro (And.intro (@adn) (And.intro (@akB) (@ah4))) (And.intro (And.intro (@afq) (@ahS)) (And.intro (@Yp) (@adT))))) (And.intro (And.intro (And.intro (@ZT) (And.intro (@adS) (@abh))) (And.intro (@aaw) (And.intro (@ahI) (@aeY)))) (And.intro (And.intro (@acn) (And.intro (@aff) (@afe))) (And.intro (And.intro (@ac3) (@ac2)) (And.intro (@ac4) (@XA)))))) (And.intro (And.intro (And.intro (And.intro (@ahp) (And.intro (@ace) (@aao))) (And.intro (@afo) (And.intro (@adg) (@amJ)))) (And.intro (And.intro (@aku) (And.intro (@akx) (@akt))) (And.intro (And.intro (@akw) (@akv)) (And.intro (@amK) (@anZ))))) (And.intro (And.intro (And.intro (@an0) (And.intro (@alE) (@alD))) (And.intro (@an1) (And.intro (@alF) (@apW)))) (And.intro (And.intro (@akk) (And.intro (@akj) (@ajV))) (And.intro (And.intro (@ahH) (@aqe)) (And.intro (@aqd) (@anV))))))) (And.intro (And.intro (And.intro (And.intro (And.intro (@abE) (And.intro (@ahf) (@alB))) (And.intro (@aja) (And.intro (@anR) (@alA)))) (And.intro (And.intro (@ajf) (And.intro (@ajh) (@aeu))) (And.intro (And.intro (@aes) (@anQ)) (And.intro (@alo) (@apf))))) (And.intro (And.intro (And.intro (@aje) (And.intro (@ajg) (@jZ))) (And.intro (@alq) (And.intro (@anS) (@als)))) (And.intro (And.intro (@alu) (And.intro (@alv) (@alp))) (And.intro (And.intro (@anP) (@anT)) (And.intro (@alz) (@aly)))))) (And.intro (And.intro (And.intro (And.intro (@ahh) (And.intro (@abI) (@abG))) (And.intro (@abH) (And.intro (@aeo) (@aen)))) (And.intro (And.intro (@aaf) (And.intro (@alc) (@alT))) (And.intro (And.intro (@al3) (@alZ)) (And.intro (@al1) (@al2))))) (And.intro (And.intro (And.intro (@alU) (And.intro (@al0) (@alY))) (And.intro (And.intro (@alX) (@alW)) (And.intro (@alV) (@ao3)))) (And.intro (And.intro (@ao4) (And.intro (@aoK) (@apj))) (And.intro (And.intro (@apk) (@aoF)) (And.intro (@apZ) (@ajR)))))))) (And.intro (And.intro (And.intro (And.intro (And.intro (And.intro (@al8) (And.intro (@ahB) (@ajQ))) (And.intro (@ad8) (And.intro (@ad9) (@abp)))) (And.intro (And.intro (@ZY) (And.intro (@aea) (@abr))) (And.intro (And.intro (@al4) (@alx)) (And.intro (@OZ) (@jX))))) (And.intro (And.intro (And.intro (@ajF) (And.intro (@amd) (@amf))) (And.intro (@agv) (And.intro (@aii) (@ahO)))) (And.intro (And.intro (@ahg) (And.intro (@ahl) (@Nh))) (And.intro (And.intro (@alr) (@anU)) (And.intro (@ap6) (@amj)))))) (And.intro (And.intro (And.intro (And.intro (@aj9) (And.intro (@aml) (@ahM))) (And.intro (@amk) (And.intro (@ajZ) (@amc)))) (And.intro (And.intro (@ahC) (And.intro (@akM) (@afw))) (And.intro (And.intro (@aoH) (@ajS)) (And.intro (@alS) (@ajD))))) (And.intro (And.intro (And.intro (@ama) (And.intro (@ahE) (@an3))) (And.intro (And.intro (@ajn) (@anx)) (And.intro (@anz) (@aiE)))) (And.intro (And.intro (@alI) (And.intro (@an7) (@an6))) (And.intro (And.intro (@aiB) (@agw)) (And.intro (@Option.map_some.{0,0}) (@List.mem_cons.{0}))))))) (And.intro (And.intro (And.intro (And.intro (And.intro (@List.not_mem_nil.{0}) (And.intro (@or_false) (@or_self))) (And.intro (@not_false_eq_true) (And.intro (@ne_eq.{1}) (@decide_true)))) (And.intro (And.intro (@decide_false) (And.intro (@cond_true.{1}) (@cond_false.{1}))) (And.intro (And.intro (@Bool.not_true) (@Bool.not_false)) (And.intro (@Nat.zero_add) (@Nat.add_zero))))) (And.intro (And.intro (And.intro (@List.map_cons.{0,0}) (And.intro (@List.map_nil.{0,0}) (@List.cons_append.{0}))) (And.intro (@List.nil_append.{0}) (And.intro (@List.append_nil.{0}) (@List.length_cons.{0})))) (And.intro (And.intro (@List.length_nil.{0}) (And.intro (@List.replicate_succ.{0}) (@List.replicate_zero.{0}))) (And.intro (And.intro (@List.all_cons.{0}) (@List.all_nil.{0})) (And.intro (@Bool.and_true) (@Bool.true_and)))))) (And.intro (And.intro (And.intro (And.intro (@Bool.and_self) (And.intro (@true_and) (@and_true))) (And.intro (@true_implies) (And.intro (@List.set_cons_zero.{0}) (@List.set_cons_succ.{0})))) (And.intro (And.intro (@List.getElem?_cons_zero.{0}) (And.intro (@List.getElem?_cons_succ.{0}) (@List.drop_succ_cons.{0}))) (And.intro (And.intro (@List.drop_zero.{0}) (@List.take_succ_cons.{0})) (And.intro (@List.take_zero.{0}) (@List.getD_cons_zero.{0}))))) (And.intro (And.intro (And.intro (@List.getD_cons_succ.{0}) (And.intro (@amD) (@amE))) (And.intro (And.intro (@amy) (@amA)) (And.intro (@amB) (@amC)))) (And.intro (And.intro (@amF) (And.intro (@amG) (@amH))) (And.intro (And.intro (@ap8) (@ap9)) (And.intro (@aqa) (@ahZ))))))))
end Go.Am
