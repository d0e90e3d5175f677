/-
  Part 22 of the proof of a law of desks: an abstract machine over the model, contracts of functions, plain laws.
  Conditions: none.
-/
import Derived.Test.YtbefoehadfnkbaaGreatDoorJourneymanParsesM20
import Derived.Test.YtbefoehadfnkbaaGreatDoorJourneymanParsesM21
import Derived.Ground.NamesProg
import Derived.Shelf.Strings.Split
import Derived.Shelf.Strings.OnBuilder
import Derived.Shelf.Strconv.Itoa3
import Derived.Shelf.Strings.Cut
import Derived.Shelf.Sort.Plain
import Derived.Ground.Names2Prog
import Derived.Shelf.Lays2
import Derived.Shelf.Small.Strs
import Derived.Test.YtbefoehadfnkbaaGreatDoorChecked
set_option linter.all false
set_option maxRecDepth 10000
set_option maxHeartbeats 4000000
open Nat renaming reduceBEq→qA,reduceAdd→qB,reduceSub→qC,reduceEqDiff→qD,reduceLT→qE,reduceLeDiff→qF
namespace Go.Proofs
open Go.Shelf
def Tryz.laysSplit_ren:Go.Shelf.Ren:=⟨fun|146=>219|221=>279|268=>303|138=>304|143=>305|195=>330|197=>331|218=>332|219=>333|260=>348|217=>272|225=>349|224=>350|267=>351|266=>299|314=>356|n=>n,fun|9=>9|31=>181|3=>3|4=>4|0=>0|105=>381|21=>21|5=>5|46=>343|119=>395|139=>398|138=>397|146=>399|51=>370|n=>n,fun|1=>0|3=>2|4=>3|n=>n⟩
theorem Tryz.laysSplit:Go.Proofs.Lays.n146 Tryz.prog Tryz.laysSplit_ren:={
 mixed:=by kernel_rfl
 f138:=Tryz.func304.trans (congrArg some (by kernel_rfl))
 f143:=Tryz.func305.trans (congrArg some (by kernel_rfl))
 f146:=Tryz.func219.trans (congrArg some (by kernel_rfl))
 f195:=Tryz.func330.trans (congrArg some (by kernel_rfl))
 f197:=Tryz.func331.trans (congrArg some (by kernel_rfl))
 f217:=Tryz.func272.trans (congrArg some (by kernel_rfl))
 f218:=Tryz.func332.trans (congrArg some (by kernel_rfl))
 f219:=Tryz.func333.trans (congrArg some (by kernel_rfl))
 f221:=Tryz.func279.trans (congrArg some (by kernel_rfl))
 f224:=Tryz.func350.trans (congrArg some (by kernel_rfl))
 f225:=Tryz.func349.trans (congrArg some (by kernel_rfl))
 f260:=Tryz.func348.trans (congrArg some (by kernel_rfl))
 f266:=Tryz.func299.trans (congrArg some (by kernel_rfl))
 f267:=Tryz.func351.trans (congrArg some (by kernel_rfl))
 f268:=Tryz.func303.trans (congrArg some (by kernel_rfl))
 f314:=Tryz.func356.trans (congrArg some (by kernel_rfl))
 t0:=Tryz.underlying0
 a0:=Tryz.isAgg0
 z0:=Tryz.sizeOf0
 v0:=Tryz.zeroValue0
 t3:=Tryz.underlying3
 a3:=Tryz.isAgg3
 z3:=Tryz.sizeOf3
 v3:=Tryz.zeroValue3
 t4:=Tryz.underlying4
 a4:=Tryz.isAgg4
 z4:=Tryz.sizeOf4
 v4:=Tryz.zeroValue4
 t5:=Tryz.underlying5
 a5:=Tryz.isAgg5
 z5:=Tryz.sizeOf5
 v5:=Tryz.zeroValue5
 t9:=Tryz.underlying9
 a9:=Tryz.isAgg9
 z9:=Tryz.sizeOf9
 v9:=Tryz.zeroValue9
 t21:=Tryz.underlying21
 a21:=Tryz.isAgg21
 z21:=Tryz.sizeOf21
 v21:=Tryz.zeroValue21
 t31:=Tryz.underlying181
 a31:=Tryz.isAgg181
 z31:=Tryz.sizeOf181
 v31:=Tryz.zeroValue181
 t46:=Tryz.underlying343
 a46:=Tryz.isAgg343
 z46:=Tryz.sizeOf343
 v46:=Tryz.zeroValue343
 t51:=Tryz.underlying370
 a51:=Tryz.isAgg370
 z51:=Tryz.sizeOf370
 v51:=Tryz.zeroValue370
 t105:=Tryz.underlying381
 a105:=Tryz.isAgg381
 z105:=Tryz.sizeOf381
 v105:=Tryz.zeroValue381
 t119:=Tryz.underlying395
 a119:=Tryz.isAgg395
 z119:=Tryz.sizeOf395
 t138:=Tryz.underlying397
 a138:=Tryz.isAgg397
 z138:=Tryz.sizeOf397
 v138:=Tryz.zeroValue397
 t139:=Tryz.underlying398
 a139:=Tryz.isAgg398
 z139:=Tryz.sizeOf398
 v139:=Tryz.zeroValue398
 t146:=Tryz.underlying399
 a146:=Tryz.isAgg399
 z146:=Tryz.sizeOf399
 v146:=Tryz.zeroValue399
 g1:=by kernel_rfl
 g3:=by kernel_rfl
 g4:=by kernel_rfl}
def Tryz.laysItoa_ren:Go.Shelf.Ren:=⟨fun|171=>213|243=>273|246=>300|283=>324|284=>325|285=>326|286=>327|129=>322|317=>344|318=>345|319=>346|320=>347|337=>354|338=>355|n=>n,fun|3=>3|9=>9|2=>2|4=>4|171=>373|0=>0|53=>372|37=>324|5=>5|173=>375|212=>390|51=>370|20=>20|213=>391|46=>343|232=>401|233=>402|n=>n,fun|17=>1|18=>4|19=>5|n=>n⟩
theorem Tryz.laysItoa:Go.Proofs.LaysM.n171 Tryz.prog Tryz.laysItoa_ren:={
 mixed:=by kernel_rfl
 f129:=Tryz.func322.trans (congrArg some (by kernel_rfl))
 f171:=Tryz.func213.trans (congrArg some (by kernel_rfl))
 f243:=Tryz.func273.trans (congrArg some (by kernel_rfl))
 f246:=Tryz.func300.trans (congrArg some (by kernel_rfl))
 f283:=Tryz.func324.trans (congrArg some (by kernel_rfl))
 f284:=Tryz.func325.trans (congrArg some (by kernel_rfl))
 f285:=Tryz.func326.trans (congrArg some (by kernel_rfl))
 f286:=Tryz.func327.trans (congrArg some (by kernel_rfl))
 f317:=Tryz.func344.trans (congrArg some (by kernel_rfl))
 f318:=Tryz.func345.trans (congrArg some (by kernel_rfl))
 f319:=Tryz.func346.trans (congrArg some (by kernel_rfl))
 f320:=Tryz.func347.trans (congrArg some (by kernel_rfl))
 f337:=Tryz.func354.trans (congrArg some (by kernel_rfl))
 f338:=Tryz.func355.trans (congrArg some (by kernel_rfl))
 t0:=Tryz.underlying0
 a0:=Tryz.isAgg0
 z0:=Tryz.sizeOf0
 v0:=Tryz.zeroValue0
 t2:=Tryz.underlying2
 a2:=Tryz.isAgg2
 z2:=Tryz.sizeOf2
 v2:=Tryz.zeroValue2
 t3:=Tryz.underlying3
 a3:=Tryz.isAgg3
 z3:=Tryz.sizeOf3
 v3:=Tryz.zeroValue3
 t4:=Tryz.underlying4
 a4:=Tryz.isAgg4
 z4:=Tryz.sizeOf4
 v4:=Tryz.zeroValue4
 t5:=Tryz.underlying5
 a5:=Tryz.isAgg5
 z5:=Tryz.sizeOf5
 v5:=Tryz.zeroValue5
 t9:=Tryz.underlying9
 a9:=Tryz.isAgg9
 z9:=Tryz.sizeOf9
 v9:=Tryz.zeroValue9
 t20:=Tryz.underlying20
 a20:=Tryz.isAgg20
 z20:=Tryz.sizeOf20
 v20:=Tryz.zeroValue20
 t37:=Tryz.underlying324
 a37:=Tryz.isAgg324
 z37:=Tryz.sizeOf324
 v37:=Tryz.zeroValue324
 t46:=Tryz.underlying343
 a46:=Tryz.isAgg343
 z46:=Tryz.sizeOf343
 v46:=Tryz.zeroValue343
 t51:=Tryz.underlying370
 a51:=Tryz.isAgg370
 z51:=Tryz.sizeOf370
 v51:=Tryz.zeroValue370
 t53:=Tryz.underlying372
 a53:=Tryz.isAgg372
 z53:=Tryz.sizeOf372
 v53:=Tryz.zeroValue372
 t171:=Tryz.underlying373
 a171:=Tryz.isAgg373
 z171:=Tryz.sizeOf373
 v171:=Tryz.zeroValue373
 t173:=Tryz.underlying375
 a173:=Tryz.isAgg375
 z173:=Tryz.sizeOf375
 v173:=Tryz.zeroValue375
 t212:=Tryz.underlying390
 a212:=Tryz.isAgg390
 z212:=Tryz.sizeOf390
 v212:=Tryz.zeroValue390
 t213:=Tryz.underlying391
 a213:=Tryz.isAgg391
 z213:=Tryz.sizeOf391
 t232:=Tryz.underlying401
 a232:=Tryz.isAgg401
 z232:=Tryz.sizeOf401
 v232:=Tryz.zeroValue401
 t233:=Tryz.underlying402
 a233:=Tryz.isAgg402
 z233:=Tryz.sizeOf402
 v233:=Tryz.zeroValue402
 g17:=by kernel_rfl
 g18:=by kernel_rfl
 g19:=by kernel_rfl
 i0:=by kernel_rfl
 i2:=by kernel_rfl
 i3:=by kernel_rfl
 i4:=by kernel_rfl
 i5:=by kernel_rfl
 i9:=by kernel_rfl
 i20:=by kernel_rfl
 i37:=by kernel_rfl
 i46:=by kernel_rfl
 i51:=by kernel_rfl
 i53:=by kernel_rfl
 i171:=by kernel_rfl
 i173:=by kernel_rfl
 i212:=by kernel_rfl
 i232:=by kernel_rfl
 i233:=by kernel_rfl
 m17:=by kernel_rfl
 m18:=by kernel_rfl
 m19:=by kernel_rfl}
def Tryz.laysJoin_ren:Go.Shelf.Ren:=⟨fun|156=>218|165=>276|166=>277|169=>278|240=>301|241=>302|276=>328|277=>329|n=>n,fun|31=>181|9=>9|3=>3|4=>4|0=>0|20=>20|72=>327|76=>331|70=>325|37=>324|75=>330|127=>352|164=>377|5=>5|80=>196|n=>n,fun|n=>n⟩
theorem Tryz.laysJoin:Go.Proofs.Lays.n156 Tryz.prog Tryz.laysJoin_ren:={
 mixed:=by kernel_rfl
 f156:=Tryz.func218.trans (congrArg some (by kernel_rfl))
 f165:=Tryz.func276.trans (congrArg some (by kernel_rfl))
 f166:=Tryz.func277.trans (congrArg some (by kernel_rfl))
 f169:=Tryz.func278.trans (congrArg some (by kernel_rfl))
 f240:=Tryz.func301.trans (congrArg some (by kernel_rfl))
 f241:=Tryz.func302.trans (congrArg some (by kernel_rfl))
 f276:=Tryz.func328.trans (congrArg some (by kernel_rfl))
 f277:=Tryz.func329.trans (congrArg some (by kernel_rfl))
 t0:=Tryz.underlying0
 a0:=Tryz.isAgg0
 z0:=Tryz.sizeOf0
 v0:=Tryz.zeroValue0
 t3:=Tryz.underlying3
 a3:=Tryz.isAgg3
 z3:=Tryz.sizeOf3
 v3:=Tryz.zeroValue3
 t4:=Tryz.underlying4
 a4:=Tryz.isAgg4
 z4:=Tryz.sizeOf4
 v4:=Tryz.zeroValue4
 t9:=Tryz.underlying9
 a9:=Tryz.isAgg9
 z9:=Tryz.sizeOf9
 v9:=Tryz.zeroValue9
 t20:=Tryz.underlying20
 a20:=Tryz.isAgg20
 z20:=Tryz.sizeOf20
 v20:=Tryz.zeroValue20
 t31:=Tryz.underlying181
 a31:=Tryz.isAgg181
 z31:=Tryz.sizeOf181
 v31:=Tryz.zeroValue181
 t37:=Tryz.underlying324
 a37:=Tryz.isAgg324
 z37:=Tryz.sizeOf324
 v37:=Tryz.zeroValue324
 t70:=Tryz.underlying325
 a70:=Tryz.isAgg325
 z70:=Tryz.sizeOf325
 v70:=Tryz.zeroValue325
 t72:=Tryz.underlying327
 a72:=Tryz.isAgg327
 z72:=Tryz.sizeOf327
 v72:=Tryz.zeroValue327
 t75:=Tryz.underlying330
 a75:=Tryz.isAgg330
 z75:=Tryz.sizeOf330
 v75:=Tryz.zeroValue330
 t76:=Tryz.underlying331
 a76:=Tryz.isAgg331
 z76:=Tryz.sizeOf331
 v76:=Tryz.zeroValue331
 t127:=Tryz.underlying352
 a127:=Tryz.isAgg352
 z127:=Tryz.sizeOf352
 v127:=Tryz.zeroValue352
 t164:=Tryz.underlying377
 a164:=Tryz.isAgg377
 z164:=Tryz.sizeOf377
 v164:=Tryz.zeroValue377}
def Tryz.laysSort_ren:Go.Shelf.Ren:=⟨fun|189=>240|125=>290|257=>289|128=>321|129=>322|294=>312|295=>313|296=>314|297=>315|298=>316|299=>317|216=>318|300=>319|301=>320|328=>338|329=>339|330=>340|331=>341|332=>342|215=>343|343=>353|n=>n,fun|28=>23|3=>3|46=>343|0=>0|51=>370|53=>372|4=>4|183=>364|182=>363|131=>81|5=>5|9=>9|218=>383|222=>387|228=>393|229=>355|n=>n,fun|n=>n⟩
theorem Tryz.laysSort:Go.Proofs.Lays.n189 Tryz.prog Tryz.laysSort_ren:={
 mixed:=by kernel_rfl
 f125:=Tryz.func290.trans (congrArg some (by kernel_rfl))
 f128:=Tryz.func321.trans (congrArg some (by kernel_rfl))
 f129:=Tryz.func322.trans (congrArg some (by kernel_rfl))
 f189:=Tryz.func240.trans (congrArg some (by kernel_rfl))
 f215:=Tryz.func343.trans (congrArg some (by kernel_rfl))
 f216:=Tryz.func318.trans (congrArg some (by kernel_rfl))
 f257:=Tryz.func289.trans (congrArg some (by kernel_rfl))
 f294:=Tryz.func312.trans (congrArg some (by kernel_rfl))
 f295:=Tryz.func313.trans (congrArg some (by kernel_rfl))
 f296:=Tryz.func314.trans (congrArg some (by kernel_rfl))
 f297:=Tryz.func315.trans (congrArg some (by kernel_rfl))
 f298:=Tryz.func316.trans (congrArg some (by kernel_rfl))
 f299:=Tryz.func317.trans (congrArg some (by kernel_rfl))
 f300:=Tryz.func319.trans (congrArg some (by kernel_rfl))
 f301:=Tryz.func320.trans (congrArg some (by kernel_rfl))
 f328:=Tryz.func338.trans (congrArg some (by kernel_rfl))
 f329:=Tryz.func339.trans (congrArg some (by kernel_rfl))
 f330:=Tryz.func340.trans (congrArg some (by kernel_rfl))
 f331:=Tryz.func341.trans (congrArg some (by kernel_rfl))
 f332:=Tryz.func342.trans (congrArg some (by kernel_rfl))
 f343:=Tryz.func353.trans (congrArg some (by kernel_rfl))
 t0:=Tryz.underlying0
 a0:=Tryz.isAgg0
 z0:=Tryz.sizeOf0
 v0:=Tryz.zeroValue0
 t3:=Tryz.underlying3
 a3:=Tryz.isAgg3
 z3:=Tryz.sizeOf3
 v3:=Tryz.zeroValue3
 t4:=Tryz.underlying4
 a4:=Tryz.isAgg4
 z4:=Tryz.sizeOf4
 v4:=Tryz.zeroValue4
 t5:=Tryz.underlying5
 a5:=Tryz.isAgg5
 z5:=Tryz.sizeOf5
 v5:=Tryz.zeroValue5
 t9:=Tryz.underlying9
 a9:=Tryz.isAgg9
 z9:=Tryz.sizeOf9
 v9:=Tryz.zeroValue9
 t28:=Tryz.underlying23
 a28:=Tryz.isAgg23
 z28:=Tryz.sizeOf23
 v28:=Tryz.zeroValue23
 t46:=Tryz.underlying343
 a46:=Tryz.isAgg343
 z46:=Tryz.sizeOf343
 v46:=Tryz.zeroValue343
 t51:=Tryz.underlying370
 a51:=Tryz.isAgg370
 z51:=Tryz.sizeOf370
 v51:=Tryz.zeroValue370
 t53:=Tryz.underlying372
 a53:=Tryz.isAgg372
 z53:=Tryz.sizeOf372
 v53:=Tryz.zeroValue372
 t131:=Tryz.underlying81
 a131:=Tryz.isAgg81
 z131:=Tryz.sizeOf81
 v131:=Tryz.zeroValue81
 t182:=Tryz.underlying363
 a182:=Tryz.isAgg363
 z182:=Tryz.sizeOf363
 v182:=Tryz.zeroValue363
 t183:=Tryz.underlying364
 a183:=Tryz.isAgg364
 z183:=Tryz.sizeOf364
 v183:=Tryz.zeroValue364
 t218:=Tryz.underlying383
 a218:=Tryz.isAgg383
 z218:=Tryz.sizeOf383
 v218:=Tryz.zeroValue383
 t222:=Tryz.underlying387
 a222:=Tryz.isAgg387
 z222:=Tryz.sizeOf387
 v222:=Tryz.zeroValue387
 t228:=Tryz.underlying393
 a228:=Tryz.isAgg393
 z228:=Tryz.sizeOf393
 v228:=Tryz.zeroValue393
 t229:=Tryz.underlying355
 a229:=Tryz.isAgg355
 z229:=Tryz.sizeOf355
 v229:=Tryz.zeroValue355}
def Tryz.laysDel_ren:Go.Shelf.Ren:=⟨fun|23=>271|n=>n,fun|22=>23|3=>3|4=>4|0=>0|n=>n,fun|n=>n⟩
theorem Tryz.laysDel:Go.Proofs.Lays2.n23 Tryz.prog Tryz.laysDel_ren:={
 mixed:=by kernel_rfl
 f23:=Tryz.func271.trans (congrArg some (by kernel_rfl))
 t0:=Tryz.underlying0
 a0:=Tryz.isAgg0
 z0:=Tryz.sizeOf0
 v0:=Tryz.zeroValue0
 t3:=Tryz.underlying3
 a3:=Tryz.isAgg3
 z3:=Tryz.sizeOf3
 v3:=Tryz.zeroValue3
 t4:=Tryz.underlying4
 a4:=Tryz.isAgg4
 z4:=Tryz.sizeOf4
 v4:=Tryz.zeroValue4
 t22:=Tryz.underlying23
 a22:=Tryz.isAgg23
 z22:=Tryz.sizeOf23
 v22:=Tryz.zeroValue23
 i3:=by kernel_rfl}
def Tryz.laysIndexB_ren:Go.Shelf.Ren:=⟨fun|137=>212|217=>272|266=>299|n=>n,fun|9=>9|5=>5|3=>3|n=>n,fun|n=>n⟩
theorem Tryz.laysIndexB:Go.Proofs.Lays.n137 Tryz.prog Tryz.laysIndexB_ren:={
 mixed:=by kernel_rfl
 f137:=Tryz.func212.trans (congrArg some (by kernel_rfl))
 f217:=Tryz.func272.trans (congrArg some (by kernel_rfl))
 f266:=Tryz.func299.trans (congrArg some (by kernel_rfl))
 t3:=Tryz.underlying3
 a3:=Tryz.isAgg3
 z3:=Tryz.sizeOf3
 v3:=Tryz.zeroValue3
 t5:=Tryz.underlying5
 a5:=Tryz.isAgg5
 z5:=Tryz.sizeOf5
 v5:=Tryz.zeroValue5
 t9:=Tryz.underlying9
 a9:=Tryz.isAgg9
 z9:=Tryz.sizeOf9
 v9:=Tryz.zeroValue9}
end Go.Proofs
namespace Go.Tel
open Go.Am
theorem ab1:ay=DV.int .i64:=rfl
theorem am7:ais:=by
 intro k ver i zs bs fz ar K KP h hi hK
 exact anL (C:=C) Go.Proofs.Tryz.laysDel (by rw[←ab1];exact h) hi (by rw[←ab1];exact hK)
end Go.Tel
namespace Go.Tel
open Go.Am
structure Frm (M M':Mem):Prop where
 len:M.boxes.length≤M'.boxes.length
 aY:M.aA.length≤M'.aA.length
 box:∀i,i<M.boxes.length→M'.boxes[i]?=M.boxes[i]?
 fz:∀i,i<M.boxes.length→(i∈M'.fz↔i∈M.fz)
 row:∀k,k<M.aA.length→M'.aA[k]?=M.aA[k]?
 fzb:FzB M→FzB M'
theorem Frm.refl (M:Mem):Frm M M:=⟨Nat.le_refl _,Nat.le_refl _,fun _ _=>rfl,fun _ _=>Iff.rfl,fun _ _=>rfl,id⟩
theorem Frm.trans {M M' M'':Mem}(h:Frm M M')(h':Frm M' M''):Frm M M'':=
 ⟨Nat.le_trans h.len h'.len,Nat.le_trans h.aY h'.aY,fun i hi=>(h'.box i (Nat.lt_of_lt_of_le hi h.len)).trans (h.box i hi),fun i hi=>(h'.fz i (Nat.lt_of_lt_of_le hi h.len)).trans (h.fz i hi),
  fun k hk=>(h'.row k (Nat.lt_of_lt_of_le hk h.aY)).trans (h.row k hk),fun e=>h'.fzb (h.fzb e)⟩
theorem Frm.ext {bs xb:List (Option (List PV))}{fz xf:List Nat}{ar xa:List (Option Arr)}(hx:∀i∈xf,bs.length≤i∧i<bs.length+xb.length):Frm ⟨bs,fz,ar⟩ ⟨bs++xb,xf++fz,ar++xa⟩:=
 ⟨by simp,by simp,fun i hi=>List.getElem?_append_left hi,fun i hi=>by
  simp only[List.mem_append]
  exact⟨fun e=>e.elim (fun e=>absurd (hx i e).1 (by simp only at hi;omega)) id, .inr⟩,fun k hk=>List.getElem?_append_left hk,fun hb i hi=>by
  simp only[List.length_append]
  rcases List.mem_append.1 hi with e|e
  ·exact(hx i e).2
  ·have:=hb i e;simp only at this;omega⟩
theorem Frm.frs {M M' M'':Mem}{a b mb:Nat}(h:Frm M M')(h':FrS a b mb M' M'')(hb:M.boxes.length≤b)(hm:M.boxes.length≤mb)(ha:M.aA.length≤a):Frm M M'':=
 ⟨Nat.le_trans h.len h'.len,Nat.le_trans h.aY h'.aY,fun i hi=>(h'.box i (Nat.lt_of_lt_of_le hi h.len) (by omega) (by omega)).trans (h.box i hi),fun i hi=>(h'.fz i (Nat.lt_of_lt_of_le hi h.len)).trans (h.fz i hi),
  fun k hk=>(h'.row k (by omega)).trans (h.row k hk),fun e=>h'.fzb (h.fzb e)⟩
theorem TT {sz:Nat}{W:Bool}{c:PV}{xs:List DV}{ar:List (Option Arr)}(h:slN sz W c xs ar){k:Nat}(hk:kOf c=some k):k<ar.length:=by
 rcases h with⟨rfl,_⟩|⟨k',_,_,rfl,h,_⟩
 ·cases hk
 ·cases hk;exact(List.getElem?_eq_some_iff.1 h).1
theorem AZ.frm {D:Dk}{d:Nat}{ce cs:PV}{M M':Mem}(h:AZ D d ce cs M)(hf:Frm M M'):AZ D d ce cs M':=
 {box:=(hf.box d (List.getElem?_eq_some_iff.1 h.box).1).trans h.box
  ent:=EK h.ent fun k A h1 h2=>(hf.row k (TT h.ent h1)).trans h2
  str:=EK h.str fun k A h1 h2=>(hf.row k (TT h.str h1)).trans h2
  dif:=h.dif
  nb:=fun e=>h.nb ((hf.fz d (List.getElem?_eq_some_iff.1 h.box).1).1 e)
  fzb:=hf.fzb h.fzb}
theorem fQ.moved {s:Su}{a b mb n:Nat}{cst cse:PV}{t:Sp}{M M':Mem}(h:fQ s a b mb cst cse t M)(hm:Moved n no M M')(hb:b<n)(hmb:mb<n):fQ s a b mb cst cse t M':=
 {box:=(hm.box b hb id).trans h.box
  map:=(hm.box mb hmb id).trans h.map
  r0:=by rw[hm.aA];exact h.r0
  r1:=by rw[hm.aA];exact h.r1
  r2:=by rw[hm.aA];exact h.r2
  r3:=by rw[hm.aA];exact h.r3
  r4:=by rw[hm.aA];exact h.r4
  r5:=by rw[hm.aA];exact h.r5
  stk:=by rw[hm.aA];exact h.stk
  set:=by rw[hm.aA];exact h.set
  kst:=h.kst,kse:=h.kse,dif:=h.dif
  nb:=fun e=>h.nb ((hm.fz b hb id).1 e)
  nm:=fun e=>h.nm ((hm.fz mb hmb id).1 e)
  bm:=h.bm
  fzb:=hm.fzb h.fzb}
theorem Frm.moved {n:Nat}{M M' M'':Mem}(h:Frm M M')(hm:Moved n no M' M'')(hn:M.boxes.length≤n):Frm M M'':=
 ⟨Nat.le_trans h.len hm.len,by rw[hm.aA];exact h.aY,fun i hi=>(hm.box i (by omega) id).trans (h.box i hi),fun i hi=>(hm.fz i (by omega) id).trans (h.fz i hi),fun k hk=>by rw[hm.aA];exact h.row k hk,fun e=>hm.fzb (h.fzb e)⟩
theorem CX (s:Su):∀(l m:List De) (t:Sp),JF s (l++m) t=(JF s l t).bind (JF s m)
 | [],_,_=>rfl
 |x::l,m,t=>by
  simp only[List.cons_append,JF]
  cases doS s t x with
  |none=>rfl
  |some t1=>exact CX s l m t1
def wo (w:Int)(l:List (Nat×De)):List De:=(l.filter fun p=>decide ((p.1:Int)≠w)).map (·.2)
theorem afC (w:Int)(l:List (Nat×De))(p:Nat×De):wo w (l++ [p])=if(p.1:Int)=w then wo w l else wo w l++ [p.2]:=by
 simp only[wo,List.filter_append,List.map_append]
 by_cases h:(p.1:Int)=w<;>simp[h]
theorem akX (w:Int)(l:List (Nat×De))(p:Nat×De)(r:List (Nat×De)):wo w (l++p::r)=wo w (l++ [p])++wo w r:=by
 simp[wo,List.filter_append,List.map_append,List.filter_cons]
 split<;>simp
theorem ao6 (w:Int)(l:List (Nat×De)):(wo w l).length≤l.length:=by
 simp only[wo,List.length_map];exact List.length_filter_le _ _
theorem fQ.new {s:Su}{bs:List (Option (List PV))}{fz:List Nat}{ar:List (Option Arr)}{x0 x3:Option (List PV)}(hfz:∀i∈fz,i<bs.length):
  fQ s ar.length (bs.length+2) (bs.length+1) (.d (.slice true [])) (.d (.slice true [])) s.sp0 ⟨bs++ [x0,some [.iY []],some (iC s ar.length (bs.length+1) (.d (.slice true [])) (.d (.slice true [])) 0),x3],bs.length::fz,ar++s.rows.map some⟩:=
 {box:=by simp only;rw[bG rfl];rfl
  map:=by simp only;rw[bG rfl];rfl
  r0:=by simp[Su.rows,Su.sp0]
  r1:=by simp[Su.rows,Su.sp0]
  r2:=by simp[Su.rows,Su.sp0]
  r3:=by simp[Su.rows]
  r4:=by simp[Su.rows]
  r5:=by simp[Su.rows]
  stk:= .inl ⟨rfl,rfl⟩
  set:= .inl ⟨rfl,rfl⟩
  kst:=fun k hk=>by cases hk
  kse:=fun k hk=>by cases hk
  dif:=fun k hk=>by cases hk
  nb:=fun e=>by
   rcases List.mem_cons.1 e with e|e
   ·omega
   ·have:=hfz _ e;omega
  nm:=fun e=>by
   rcases List.mem_cons.1 e with e|e
   ·omega
   ·have:=hfz _ e;omega
  bm:=by omega
  fzb:=fun i e=>by
   simp only[List.length_append,List.length_cons,List.length_nil]
   rcases List.mem_cons.1 e with e|e
   ·omega
   ·have:=hfz _ e;omega}
theorem Fj {x:En}(h:x.formed=true):o7 x.kind≤x.ns.length:=by
 simp only[En.formed,Bool.and_eq_true,decide_eq_true_eq]at h
 omega
theorem SE {D:Dk}{d:Nat}{ce cs:PV}{M:Mem}(h:AZ D d ce cs M)(hok:D.Ok)(w:Int):
  SC C F.iM [.ptr d 0, .d (.int .i64 w)] M
   (fun p M'=>∃t b mb a cst cse,p= .ptr b 0∧D.state w=some t∧fQ D.su a b mb cst cse t M'∧Frm M M'∧M.boxes.length≤b∧M.boxes.length≤mb∧M.aA.length≤a)
   (fun dd M'=>D.state w=none∧OW dd∧Frm M M'):=by
 obtain⟨bs,fz,ar⟩:=M
 have hbox:=h.box
 rw[jg]at hbox
 simp only at hbox
 have hdl:d<bs.length:=(List.getElem?_eq_some_iff.1 hbox).1
 have KX:∀i∈fz,i<bs.length:=h.fzb
 have hn0:bs.length∉fz:=fun e=>Nat.lt_irrefl _ (KX _ e)
 have hn1:∀k,bs.length+k∉fz:=fun k e=>by have:=KX _ e;omega
 have hb0:¬d=bs.length:=by omega
 have hb1:∀k,¬d=bs.length+k:=fun k=>by omega
 have hb2:∀k,d<bs.length+k:=fun k=>by omega
 have hs1:¬bs.length+1=bs.length:=by omega
 have hs2:¬bs.length+2=bs.length:=by omega
 have hs3:¬bs.length+3=bs.length:=by omega
 have hcp:=abw D.su (Su.VP hok.su)
 rw[Oc]at hcp
 refine aF mixed rfl Gg ?_
 simp only[tH,uq,hbox,hdl,abx,aU,bG,aN,bI,bU,aP,List.append_assoc,List.length_append,Nat.add_assoc,List.length_set,hn0,hn1,hb0,hb1,hb2,hs1,RN,qA,qB,qC,qD,qE,qF]
 refine Dw rfl rfl hcp (by simp[Su.rows]) ?_
 simp only[Su.pv,PV.shift,lW,bM,dN,RN,qA,qB,qC,qD,qE,qF]
 simp only[Ws,hbox,hdl,aU,bG,aN,bI,bU,aP,List.append_assoc,List.length_append,Nat.add_assoc,List.length_set,hn0,hn1,hb0,hb1,hb2,hs1,hs2,hs3,bM,dN,bn,ahk,O7,Option.map_none,eP,jr,Lr,IV,pJ,Di,Nr,RN,qA,qB,qC,qD,qE,qF]
 have hF2:Frm ⟨bs,fz,ar⟩ ⟨bs++ [some [PV.d (DV.int IntKind.i64 w)],some [PV.iY []],some (iC D.su ar.length (bs.length+1) (.d (.slice true [])) (.d (.slice true [])) 0),some [PV.ptr (bs.length+2) 0]],bs.length::fz,ar++D.su.rows.map some⟩:=Frm.ext (xf:=[bs.length]) (by simp)
 have aom:=h.frm hF2
 have hde:∀l r p,D.stands=l++p::r→mZ D.su D.su.sp0 p.2:=fun l r p hl=>by
  obtain⟨y,hy,e⟩:=AV D.es D.st 0 p (by rw[Dk.stands]at hl;rw[hl];simp)
  rw[e];exact hok.fine y hy
 have hall:∀l,(∃r,D.stands=l++r)→∀x∈wo w l,mZ D.su D.su.sp0 x:=fun l hl x hx=>by
  obtain⟨r,hr⟩:=hl
  simp only[wo,List.mem_map,List.mem_filter]at hx
  obtain⟨p,⟨hp,_⟩,rfl⟩:=hx
  obtain⟨y,hy,e⟩:=AV D.es D.st 0 p (by rw[Dk.stands]at hr;rw[hr];simp[hp])
  rw[e];exact hok.fine y hy
 have arp:D.stands.length≤24:=Nat.le_trans (FQ _ _ _) hok.few
 have apR:D.state w=JF D.su (wo w D.stands) D.su.sp0:=rfl
 rw[iC]at hF2 aom
 refine vG (adw (ce:=ce) (cs:=cs) hok.len (by have:=hok.few;omega) (fun x hx=>Fj (hok.formed x hx))) (fun _ h=>h.elim) rfl (by kernel_rfl) (fun i hi=> ?_) (fun x hx=> ?_) (fun i hi=> ?_) (fun M' hm=>aom.toDkRd.moved (by simp;omega) hm)
  (fun pre M1=>∃l r t cst cse,D.stands=l++r∧pre=l.map qW∧JF D.su (wo w l) D.su.sp0=some t∧fQ D.su ar.length (bs.length+2) (bs.length+1) cst cse t M1∧Frm ⟨bs,fz,ar⟩ M1∧M1.boxes[bs.length+3]?=some (some [.ptr (bs.length+2) 0])∧bs.length+4≤M1.boxes.length) ?_ ?_ ?_ ?_
 ·exact aom.fzb i hi
 ·simp only[bV,List.mem_map]at hx
  obtain⟨p,_,rfl⟩:=hx
  rfl
 ·subst hi;simp;omega
 ·rintro pre M1 M2 hm ⟨l,r,t,cst,cse,q1,q2,q3,q4,q5,q6,q7⟩
  simp only[List.length_append,List.length_cons,List.length_nil]at hm
  refine⟨l,r,t,cst,cse,q1,q2,q3,q4.moved hm (by omega) (by omega),q5.moved hm (by simp),(hm.box _ (by omega) id).trans q6,Nat.le_trans q7 hm.len⟩
 ·refine⟨[],D.stands,D.su.sp0, .d (.slice true []), .d (.slice true []),rfl,rfl,rfl,?_,hF2,?_,?_⟩
  ·have:=fQ.new (s:=D.su) (ar:=ar) (x0:=some [PV.d (DV.int IntKind.i64 w)]) (x3:=some [PV.ptr (bs.length+2) 0]) KX
   rw[iC]at this
   exact this
  ·simp only;rw[bG rfl];rfl
  ·simp
 ·rintro L cells pre x post M1 hx hlt hrec hnf ⟨l,r,t,cst,cse,q1,q2,q3,q4,q5,q6,q7⟩ M0
  simp only[List.length_append,List.length_cons,List.length_nil]at hlt hrec hnf⊢
  obtain⟨p,r',rfl⟩:∃p r',r=p::r':=by
   cases r with
   |nil=>
    rw[List.append_nil]at q1
    rw[bV,List.drop_zero,List.drop_zero,←Dk.stands,q1,q2]at hx
    have:=congrArg List.length hx
    simp at this
   |cons p r'=>exact⟨p,r',rfl⟩
  have hxp:x=qW p:=by
   rw[bV,List.drop_zero,List.drop_zero,←Dk.stands,q1,q2,List.map_append,List.map_cons]at hx
   have:=List.append_cancel_left hx
   exact(List.cons.inj this).1.symm
  subst hxp
  obtain⟨bs1,fz1,ar1⟩:=M1
  simp only at hlt hrec hnf q6 q7
  have hl5:bs.length+3<bs1.length:=by omega
  have q1':D.stands=(l++ [p])++r':=by rw[q1];simp
  simp only[qW,List.zip_cons_cons,List.zip_nil_left,List.map_cons,List.map_nil,RN,qA,qB,qC,qD,qE,qF]
  by_cases hw:(p.1:Int)=w
  ·have hb:((p.1:Int) !=w)=false:=by simp[hw]
   simp only[hb,zL,RN,qA,qB,qC,qD,qE,qF]
   refine⟨hrec,hnf, .refl _,l++ [p],r',t,cst,cse,q1',by rw[q2];simp[qW],by rw[afC,if_pos hw];exact q3,q4,q5,q6,q7⟩
  ·have hb:((p.1:Int) !=w)=true:=by simp[hw]
   have hin:=Wj _ 0 _ t (akI hok.su) (hall l ⟨_,q1⟩) q3
   have hwl:=ao6 w l
   have hll:l.length≤24:=by
    have:=congrArg List.length q1
    simp at this;omega
   have hsp:ZP D.su t:=hin.sp (by omega)
   have hfi:mZ D.su t p.2:=mZ.same (n:=0) hin.ll.symm hin.hh.symm (hde l r' p q1)
   simp only[hb,q6,hl5,RN,qA,qB,qC,qD,qE,qF]
   have hda:=ai3 am7 q4 hsp p.2 hfi
   refine SC.oh (SC.mono hda ?_) ?_
   ·rintro v M3 ⟨t',wF,GN,g1,g2,g3⟩
    have hfr:Frm ⟨bs,fz,ar⟩ M3:=q5.frs g3 (by simp) (by simp) (by simp)
    have hl3:=g3.len
    simp only at hl3
    simp only[zL,RN,qA,qB,qC,qD,qE,qF]
    refine⟨(g3.box _ (by simp only;omega) (by omega) (by omega)).trans hrec,fun e=>hnf ((g3.fz _ (by simp only;omega)).1 e),⟨g3.len,g3.aY,fun i hi hil=>g3.box i hil (by omega) (by omega),fun i hi hil=>g3.fz i hil,fun k hk=> ?_,g3.fzb⟩,?_⟩
    ·refine g3.row k ?_
     rcases hk with hk|hk
     ·have:=TT h.ent hk;simpa using this
     ·have:=TT h.str hk;simpa using this
    ·refine⟨l++ [p],r',t',wF,GN,q1',by rw[q2];simp[qW],?_,g2,hfr,(g3.box _ (by simp only;omega) (by omega) (by omega)).trans q6,by omega⟩
     rw[afC,if_neg hw,CX,q3]
     simp[JF,g1]
   ·rintro dd M3 ⟨g1,g2,g3⟩
    simp only[zL,RN,qA,qB,qC,qD,qE,qF]
    refine⟨?_,g2,q5.frs g3 (by simp) (by simp) (by simp)⟩
    rw[apR,q1,akX,afC,if_neg hw,CX,CX,q3]
    simp[JF,g1]
 ·rintro M1 ⟨l,r,t,cst,cse,q1,q2,q3,q4,q5,q6,q7⟩ hlt
  have hr:r=[]:=by
   have:=congrArg List.length q2
   rw[bV,List.drop_zero,List.drop_zero,←Dk.stands,q1]at this
   simp at this
   exact this
  subst hr
  rw[List.append_nil]at q1
  obtain⟨bs1,fz1,ar1⟩:=M1
  simp only at q6 q7
  have hl5:bs.length+3<bs1.length:=by omega
  simp only[q6,hl5,RN,qA,qB,qC,qD,qE,qF]
  exact⟨t,_,_,_,cst,cse,rfl,by rw[apR,q1];exact q3,q4,q5,by omega,by omega,Nat.le_refl _⟩
end Go.Tel
namespace Go.Tel
open Go.Am
def fmL:List (ByteArray×Nat):=[(⟨#[99,117,116]⟩,1),(⟨#[99,104,97,110,103,101]⟩,3),(⟨#[111,114,100,101,114]⟩,3),(⟨#[115,101,114,118,101]⟩,2),(⟨#[115,101,116]⟩,1),(⟨#[115,116,114,105,107,101]⟩,1)]
def aeC (p:ByteArray×Nat):DV:= .agg [.str p.1, .int .i64 (p.2:Int)]
def Yw (l:List (ByteArray×Nat)):List DV:=l.flatMap fun p=>[.str p.1, .int .i64 (p.2:Int)]
theorem afU:Yw fmL=[.str ⟨#[99,117,116]⟩, .int .i64 1, .str ⟨#[99,104,97,110,103,101]⟩, .int .i64 3, .str ⟨#[111,114,100,101,114]⟩, .int .i64 3, .str ⟨#[115,101,114,118,101]⟩, .int .i64 2, .str ⟨#[115,101,116]⟩, .int .i64 1, .str ⟨#[115,116,114,105,107,101]⟩, .int .i64 1]:=rfl
theorem aah:Pure C F.mM [] (.d (.agg (Yw fmL))) []:=by
 refine ah mixed rfl NV ?_
 simp only[BM,CB,afU,Nh,RN,qA,qB,qC,qD,qE,qF]
theorem ab4 (n:Int):Pure C F.kK [.int .i64 n] (.d (.bool (!inR n 0 9999))) []:=by
 refine ah mixed rfl Gj ?_
 simp only[tN,uz,RN,qA,qB,qC,qD,qE,qF]
 refine au rfl rfl (Fq _ _ _) ?_
 (try simp only[RN,qA,qB,qC,qD,qE,qF])
def fwE (k:Int):ByteArray:=(fmL.getD (k - 1).toNat default).1
theorem V4 {k:Int}(h:1≤k∧k≤6):k=1∨k=2∨k=3∨k=4∨k=5∨k=6:=by omega
theorem am9 {k:Int}(h:1≤k∧k≤6):aiA (jd (List.take 2 (List.drop ((k - 1).toNat*2) (List.map PV.d (Yw fmL))))) (List.take 2 (List.drop ((k - 1).toNat*2) (List.map PV.d (Yw fmL))))= .d (.agg [.str (fwE k), .int .i64 (o7 k)])∧(k - 1).toNat*2+2≤(List.map PV.d (Yw fmL)).length∧IntKind.i64.wrap (k - 1)=k - 1:=by
 rcases V4 h with rfl|rfl|rfl|rfl|rfl|rfl<;>exact⟨rfl,by decide,by decide⟩
theorem aax (k:Int):o7 k≤3:=by
 unfold o7;split
 ·omega
 ·split<;>omega
theorem WT (x:En):Pure C F.jB [x.dv] (.d (.bool x.formed)) []:=by
 refine ah mixed rfl Jc ?_
 simp only[wX,xM,wO,RN,qA,qB,qC,qD,qE,qF]
 refine au rfl rfl (Fq _ _ _) ?_
 cases hk:inR x.kind 1 6
 ·(try simp only[RN,qA,qB,qC,qD,qE,qF])
  simp only[En.formed,hk,Bool.false_and]
 have hk':1≤x.kind∧x.kind≤6:=by simpa[inR]using hk
 simp only[List.length_map,RN,qA,qB,qC,qD,qE,qF]
 refine au rfl rfl aah ?_
 obtain⟨e1,e2,e3⟩:=am9 hk'
 have hm3:=aax x.kind
 simp only[e3,e1,RN,qA,qB,qC,qD,qE,qF]
 refine⟨by omega,by omega,e2,?_⟩
 by_cases he:x.ns.length=o7 x.kind
 ·have hb:((x.ns.length:Int) !=(o7 x.kind:Int))=false:=by simp[he]
  simp only[hb,RN,qA,qB,qC,qD,qE,qF]
  refine au rfl rfl (wK x.ns F.kK [] (fun n=> !inR n 0 9999) (by omega) (by kernel_rfl) fun n _=>ab4 n) ?_
  simp only[Iw,Bool.not_not,RN,qA,qB,qC,qD,qE,qF]
  simp[En.formed,hk,he]
 ·have hb:((x.ns.length:Int) !=(o7 x.kind:Int))=true:=by simp;omega
  simp only[hb,RN,qA,qB,qC,qD,qE,qF]
  simp[En.formed,he]
def O5 (e1 e2:Bool)(D:Dk):List DV:=[.aX D.su.cs, .slice false (D.su.days.map Fb), .slice e1 (D.es.map En.dv), .slice e2 (D.st.map .bool)]
def yA (e1 e2:Bool)(D:Dk):DV:= .aX (O5 e1 e2 D)
theorem Yc {sz:Nat}{W:Bool}{c:PV}{xs:List DV}{bs:List (Option (List PV))}{fz:List Nat}{ar:List (Option Arr)}(h:slN sz W c xs ar):∃ex,eU ⟨bs,fz,ar⟩ c=some (.slice ex xs):=by
 rcases h with⟨rfl,rfl⟩|⟨k,ver,st,rfl,h,_⟩
 ·exact⟨true,rfl⟩
 ·exact⟨false,by simp[eU,Mem.row,h]⟩
theorem Qp {D:Dk}{d:Nat}{ce cs:PV}{M:Mem}(h:AZ D d ce cs M):∃e1 e2,datum M (.ptr d 0)=some (yA e1 e2 D):=by
 obtain⟨bs,fz,ar⟩:=M
 have h1:=h.box
 rw[jg]at h1
 obtain⟨e1,g1⟩:=Yc (bs:=bs) (fz:=fz) h.ent
 obtain⟨e2,g2⟩:=Yc (bs:=bs) (fz:=fz) h.str
 simp only at h1 g1 g2
 refine⟨e1,e2,?_⟩
 have hd:∀x,eU ⟨bs,fz,ar⟩ (.d x)=some x:=fun _=>rfl
 have hL:bW ⟨bs,fz,ar⟩ [.d (.aX D.su.cs), .d (.slice false (D.su.days.map Fb)),ce,cs]=some (O5 e1 e2 D):=by
  simp only[bW,hd,g1,g2];rfl
 simp only[datum,Mem.box,h1,hL]
 rfl
theorem KY (e1 e2:Bool)(D:Dk)(hh:D.su.pc.hands.length≤1000)(n:Int):Pure C F.dL [yA e1 e2 D, .int .i64 n] (.d (.bool (inR n 0 (D.su.pc.hands.length - 1)))) []:=by
 refine ah mixed rfl EO ?_
 have w1:IntKind.i64.wrap ((D.su.pc.hands.length:Int) - 1)=(D.su.pc.hands.length:Int) - 1:=aG (by omega)
 simp only[rC,rQ,yA,O5,abx,List.length_map,w1,RN,qA,qB,qC,qD,qE,qF]
 refine au rfl rfl (Fq _ _ _) ?_
 (try simp only[RN,qA,qB,qC,qD,qE,qF])
theorem VJ (e1 e2:Bool)(D:Dk)(n:Int):Pure C F.fG [yA e1 e2 D, .int .i64 n] (.d (.bool (inR n 1 D.su.days.length))) []:=by
 refine ah mixed rfl Gf ?_
 simp only[tC,uo,yA,O5,List.length_map,RN,qA,qB,qC,qD,qE,qF]
 refine au rfl rfl (Fq _ _ _) ?_
 (try simp only[RN,qA,qB,qC,qD,qE,qF])
theorem ab5 (e1 e2:Bool)(D:Dk):Pure C F.gY [yA e1 e2 D] (.d (.bool true)) []:=by
 refine ah mixed rfl EP ?_
 simp only[rD,rU,yA,O5,RN,qA,qB,qC,qD,qE,qF]
end Go.Tel
namespace Go.Tel
open Go.Am
theorem agc {f:FuncId}{args:List PV}{M:Mem}{ds ds':List DV}{x:DV}{K:PV→Mem→Prop}{KP:DV→Mem→Prop}(h:Pure C f ds' (.d x) [])(hx:abL (.d x)=true)(hds:dD M args=some ds)(he:ds.map DV.strip=ds')(hK:K (.d x) M):SC C f args M K KP:=
 adh h hx rfl hds he (by simpa[PV.shift,lW]using hK)
section
variable (e1 e2:Bool)(D:Dk)
theorem ag5 (n:Int):Pure C F.sH [(De.cut n).cs,yA e1 e2 D] (.d (.bool (D.lZ (.cut n)))) []:=by
 refine ah mixed rfl Jb ?_
 simp only[wW,xK,De.cs,yA,RN,qA,qB,qC,qD,qE,qF]
 refine au rfl rfl (nZ _) ?_
 simp only[Dk.lZ,RN,qA,qB,qC,qD,qE,qF]
theorem Z4 (hl:D.su.pc.links.length≤1000)(c:Chg):Pure C F.nI [(De.change c).cs,yA e1 e2 D] (.d (.bool (D.lZ (.change c)))) []:=by
 refine ah mixed rfl EU ?_
 have w1:IntKind.i64.wrap ((D.su.pc.links.length:Int) - 1)=(D.su.pc.links.length:Int) - 1:=aG (by omega)
 simp only[rH,rY,De.cs,yA,O5,abx,List.length_map,w1,RN,qA,qB,qC,qD,qE,qF]
 refine au rfl rfl (Fq _ _ _) ?_
 cases h1:inR c.link 0 ((D.su.pc.links.length:Int) - 1)
 ·(try simp only[RN,qA,qB,qC,qD,qE,qF])
  simp only[Dk.lZ,h1,Bool.false_and]
 (try simp only[RN,qA,qB,qC,qD,qE,qF])
 refine au rfl rfl (nZ _) ?_
 cases h2:bg c.pr.a
 ·(try simp only[RN,qA,qB,qC,qD,qE,qF])
  simp only[Dk.lZ,h1,Pr.ok,h2,Bool.false_and,Bool.and_false]
 (try simp only[RN,qA,qB,qC,qD,qE,qF])
 refine au rfl rfl (nZ _) ?_
 (try simp only[RN,qA,qB,qC,qD,qE,qF])
 simp only[Dk.lZ,h1,Pr.ok,h2,Bool.true_and]
theorem acS (hh:D.su.pc.hands.length≤1000)(n:Int)(f:Fr):Pure C F.oO [(De.order n f).cs,yA e1 e2 D] (.d (.bool (D.lZ (.order n f)))) []:=by
 refine ah mixed rfl Gm ?_
 have hi:=KY e1 e2 D hh n
 have hf:=afZ f
 rw[dH]at hf
 rw[yA]at hi⊢
 simp only[tX,uF,De.cs,RN,qA,qB,qC,qD,qE,qF]
 refine au rfl rfl hi ?_
 cases h1:inR n 0 ((D.su.pc.hands.length:Int) - 1)
 ·(try simp only[RN,qA,qB,qC,qD,qE,qF])
  simp only[Dk.lZ,h1,Bool.false_and]
 (try simp only[RN,qA,qB,qC,qD,qE,qF])
 refine au rfl rfl hf ?_
 (try simp only[RN,qA,qB,qC,qD,qE,qF])
 simp only[Dk.lZ,h1,Bool.true_and]
theorem ado (hh:D.su.pc.hands.length≤1000)(n c:Int):Pure C F.oQ [(De.serve n c).cs,yA e1 e2 D] (.d (.bool (D.lZ (.serve n c)))) []:=by
 refine ah mixed rfl Gp ?_
 have hi:=KY e1 e2 D hh n
 rw[yA]at hi⊢
 simp only[tZ,uH,De.cs,RN,qA,qB,qC,qD,qE,qF]
 refine au rfl rfl hi ?_
 simp only[Dk.lZ,RN,qA,qB,qC,qD,qE,qF]
theorem ah5 (n:Int):Pure C F.sK [(De.set n).cs,yA e1 e2 D] (.d (.bool (D.lZ (.set n)))) []:=by
 refine ah mixed rfl Je ?_
 have hi:=VJ e1 e2 D n
 rw[yA]at hi⊢
 simp only[wZ,xP,De.cs,RN,qA,qB,qC,qD,qE,qF]
 refine au rfl rfl hi ?_
 simp only[Dk.lZ,RN,qA,qB,qC,qD,qE,qF]
theorem aaY (hl:D.es.length≤1000)(n:Int):Pure C F.nJ [(De.strike n).cs,yA e1 e2 D] (.d (.bool (D.lZ (.strike n)))) []:=by
 refine ah mixed rfl EX ?_
 have w1:IntKind.i64.wrap ((D.es.length:Int) - 1)=(D.es.length:Int) - 1:=aG (by omega)
 simp only[rM,sD,De.cs,yA,O5,List.length_map,w1,RN,qA,qB,qC,qD,qE,qF]
 refine au rfl rfl (Fq _ _ _) ?_
 cases h1:inR n 0 ((D.es.length:Int) - 1)
 ·(try simp only[RN,qA,qB,qC,qD,qE,qF])
  simp only[Dk.lZ,h1,Bool.false_and]
 have h1':0≤n∧n≤(D.es.length:Int) - 1:=by simpa[inR]using h1
 have hn:n.toNat<D.es.length:=by omega
 simp only[h1'.1,hn,List.length_map,getD_map,wO,RN,qA,qB,qC,qD,qE,qF]
 have:((D.es.getD n.toNat default).kind !=6)=decide ((D.es.getD n.toNat default).kind≠6):=by
  by_cases h:(D.es.getD n.toNat default).kind=6
  ·rw[h];rfl
  ·rw[decide_eq_true h];exact bne_iff_ne.2 h
 simp only[Dk.lZ,h1,Bool.true_and,this]
end
def De.aji:De→FuncId
 | .cut _=>F.sH
 | .change _=>F.nI
 | .order _ _=>F.oO
 | .serve _ _=>F.oQ
 | .set _=>F.sK
 | .strike _=>F.nJ
theorem Dk.Ok.small {D:Dk}(h:D.Ok):D.su.pc.links.length≤5∧D.su.pc.hands.length≤4:=by
 have:=Pc.Gt (Su.facts h.su).1
 omega
theorem anY (e1 e2:Bool){D:Dk}(h:D.Ok)(x:De):Pure C x.aji [x.cs,yA e1 e2 D] (.d (.bool (D.lZ x))) []:=by
 obtain⟨h1,h2⟩:=h.small
 cases x with
 |cut n=>exact ag5 _ _ _ _
 |change c=>exact Z4 _ _ _ (by omega) _
 |order n f=>exact acS _ _ _ (by omega) _ _
 |serve n c=>exact ado _ _ _ (by omega) _ _
 |set n=>exact ah5 _ _ _ _
 |strike n=>exact aaY _ _ _ (by have:=h.few;omega) _
theorem ajk (x:De):Np C.P x.ty "tellurion/journeyman.fine" =some x.aji∧callable C.P x.aji=true:=by
 cases x<;>exact⟨by kernel_rfl,by kernel_rfl⟩
theorem aiW (x:De):x.cs.strip=x.cs:=by cases x<;>rfl
theorem ajj {D:Dk}{d:Nat}{ce cs:PV}{M:Mem}(h:AZ D d ce cs M)(hok:D.Ok)(x:De){base:Nat}{K:PV→Mem→Prop}{KP:DV→Mem→Prop}(hK:K (.d (.bool (D.lZ x))) M):
  aj C base (.inv "tellurion/journeyman.fine") [.d x.dv, .ptr d 0] M K KP:=by
 obtain⟨e1,e2,hd⟩:=Qp h
 obtain⟨m1,m2⟩:=ajk x
 refine⟨_,m1,m2,agc (ds:=[x.cs,yA e1 e2 D]) (ds':=[x.cs,yA e1 e2 D]) (anY e1 e2 hok x) rfl ?_ ?_ hK⟩
 ·simp only[dD,hd];rfl
 ·simp only[List.map_cons,List.map_nil,aiW];rfl
end Go.Tel
namespace Go.Tel
open Go.Am
def VR (d:DV):Prop:=∃s,d= .iface T.uP (.agg [.str s])
theorem akD {bs:List (Option (List PV))}{b:Nat}{y:Option (List PV)}(h:bs[b]?=some y):bs.set b y=bs:=by
 apply List.ext_getElem?
 intro i
 rw[List.getElem?_set]
 by_cases hi:b=i
 ·subst hi
  have:=(List.getElem?_eq_some_iff.1 h).1
  simp[this,h]
  have h2:=h
  rw[List.getElem?_eq_getElem this]at h2
  simpa using h2.symm
 ·simp[hi]
theorem VK {g:FuncId}{fs cs:List PV}{bs:List (Option (List PV))}{fz:List Nat}{ar:List (Option Arr)}{K:PV→Mem→Prop}{KP:DV→Mem→Prop}(hfz:FzB ⟨bs,fz,ar⟩)(hc:callable C.P g=true)
  (h:SC C g (fs++cs) ⟨bs++ [some [.d (.int .i64 0)]],fz,ar⟩
   (fun _ M'=>M'.boxes[bs.length]?=some (some [.d (.int .i64 0)])∧bs.length∉M'.fz∧K (.d (.int .i64 0)) M')
   (fun d M'=>M'.boxes[bs.length]?=some (some [.d (.int .i64 0)])∧bs.length∉M'.fz∧M'.boxes.length∉M'.fz∧
    ((OW d∧∀x,K (.d (.int .i64 7)) ⟨(M'.boxes++ [x]).set bs.length (some [.d (.int .i64 7)]),M'.fz,M'.aA⟩)∨
     (VR d∧∀x,K (.d (.int .i64 4)) ⟨(M'.boxes++ [x]).set bs.length (some [.d (.int .i64 4)]),M'.fz,M'.aA⟩)))):
  SC C F.ku [.func (.func g) fs cs] ⟨bs,fz,ar⟩ K KP:=by
 have hn0:bs.length∉fz:=fun e=>Nat.lt_irrefl _ (hfz _ e)
 refine akQ mixed QK ?_
 simp only[BN,aN,aP,List.length_append,RN,qA,qB,qC,qD,qE,qF]
 refine⟨bs.length,rfl,?_⟩
 simp only[BO,Y2,RN,qA,qB,qC,qD,qE,qF]
 refine⟨hc,SC.oh (SC.mono h ?_) ?_⟩
 ·rintro v ⟨bs',fz',ar'⟩ ⟨h1,h2,h3⟩
  simp only at h1 h2
  have hl:=(List.getElem?_eq_some_iff.1 h1).1
  simp only[h1,h2,hl,akD h1,RN,qA,qB,qC,qD,qE,qF]
  simp only[adA,kP,Uo,zS,h1,hl,RN,qA,qB,qC,qD,qE,qF]
  exact h3
 ·rintro d ⟨bs',fz',ar'⟩ ⟨h1,h2,h3,h4⟩
  simp only at h1 h2 h3 h4
  have hl:=(List.getElem?_eq_some_iff.1 h1).1
  rcases h4 with⟨⟨y,rfl,y1,y2⟩,hK⟩|⟨⟨s,rfl⟩,hK⟩
  ·have hl2:bs.length<(bs'++ [some [PV.d y]]).length:=by simp;omega
   simp only[Yl,kP,Un,oI,zS,aN,aP,h3,y1,y2,aU hl,h1,h2,List.getElem?_set_self hl2,RN,qA,qB,qC,qD,qE,qF]
   exact hK _
  ·have hl2:bs.length<(bs'++ [some [PV.d (.str s)]]).length:=by simp;omega
   have c1:(T.uP==T.iQ)=false:=by decide
   simp only[Yl,kP,Un,eX c1,oI,zS,aN,aP,h3,aU hl,h1,h2,List.getElem?_set_self hl2,RN,qA,qB,qC,qD,qE,qF]
   exact hK _
end Go.Tel
namespace Go.Am
section
variable {C:Ctx}{base:Nat}{KP:DV→Mem→Prop}{K:PV→Mem→Prop}{M:Mem}
theorem ale {agg:Bool}{n:Nat}{f:FuncId}{cs:List DV}{rest:List PV}(hl:n≤cs.length)(h:SC C f rest M K KP):aj C base (.JE agg n f) (.d (.aX cs)::rest) M K KP:=by
 simp only[aj,bQ]
 exact⟨hl,SC.mono h fun p M' hh=>⟨⟨hl,trivial⟩,hh⟩⟩
theorem ald {agg:Bool}{n b off:Nat}{f:FuncId}{cs:List PV}{rest:List PV}(hb:M.boxes[b]?=some (some cs))(hl:off+n≤cs.length)(h:SC C f rest M (fun p M'=>M'.boxes[b]?=M.boxes[b]?∧K p M') KP):aj C base (.JE agg n f) (.ptr b off::rest) M K KP:=by
 have hbx:M.box b=some cs:=by simp[Mem.box,hb]
 simp only[aj,bQ,hbx]
 refine⟨hl,SC.mono h fun p M' hh=>⟨?_,hh.2⟩⟩
 have aqr:M'.box b=some cs:=by simp[Mem.box,hh.1,hb]
 simp only[aqr]
 exact⟨hl,trivial⟩
end
end Go.Am
namespace Go.Tel
open Go.Am
def Dk.goes (D:Dk):De→Bool
 | .strike n=> !D.st.getD n.toNat default&&(D.state n).isSome
 |y=>match D.state (-1)with
  |none=>false
  |some t=>(doS D.su t y).isSome
theorem WL {D:Dk}{y:De}(hy:∀n,y≠ .strike n):D.goes y=match D.state (-1)with|none=>false|some t=>(doS D.su t y).isSome:=by
 cases y with
 |strike n=>exact absurd rfl (hy n)
 | _=>rfl
theorem ano {y:De}(hy:∀n,y≠ .strike n):(y.ty==T.aZ)=false:=by
 cases y with
 |strike n=>exact absurd rfl (hy n)
 | _=>rfl
theorem Frm.new {bs xb:List (Option (List PV))}{fz xf:List Nat}{ar:List (Option Arr)}(hx:∀i∈xf,bs.length≤i∧i<bs.length+xb.length):Frm ⟨bs,fz,ar⟩ ⟨bs++xb,xf++fz,ar⟩:=by
 have:=Frm.ext (bs:=bs) (xb:=xb) (fz:=fz) (xf:=xf) (ar:=ar) (xa:=[]) hx
 simpa using this
theorem ahb {D:Dk}{d:Nat}{ce cs:PV}{M:Mem}(h:AZ D d ce cs M)(hok:D.Ok)(y:De)(hf:D.lZ y=true)(hde:mZ D.su D.su.sp0 y){pb:Nat}(hp:M.boxes[pb]?=some (some [.ptr d 0])):
  SC C F.jh [.d (.aX [y.dv]), .ptr pb 0] M (fun _ M'=>D.goes y=true∧Frm M M') (fun dd M'=>D.goes y=false∧OW dd∧Frm M M'):=by
 obtain⟨bs,fz,ar⟩:=M
 have hbox:=h.box
 rw[jg]at hbox
 simp only at hbox hp
 have hdl:d<bs.length:=(List.getElem?_eq_some_iff.1 hbox).1
 have hpl:pb<bs.length:=(List.getElem?_eq_some_iff.1 hp).1
 have hn0:bs.length∉fz:=fun e=>Nat.lt_irrefl _ (h.fzb _ e)
 have hb2:∀k,d<bs.length+k:=fun k=>by omega
 have hp2:∀k,pb<bs.length+k:=fun k=>by omega
 have hF2:∀x,Frm ⟨bs,fz,ar⟩ ⟨bs++ [x],bs.length::fz,ar⟩:=fun x=>Frm.new (xf:=[bs.length]) (by simp)
 refine aF mixed rfl DW ?_
 by_cases hs:∃n,y= .strike n
 ·obtain⟨n,rfl⟩:=hs
  have hx:(De.strike n).dv= .iface T.aZ (.agg [.int .i64 n]):=rfl
  have hn:(0≤n∧n≤(D.es.length:Int) - 1)∧n.toNat<D.st.length:=by
   simp only[Dk.lZ,inR,Bool.and_eq_true,decide_eq_true_eq]at hf
   have:=hok.len
   omega
  rw[hx]
  simp only[kD,kF,oI,hp,hpl,hdl,hb2,hp2,hbox,aU,aN,aP,hn0,List.length_append,RN,qA,qB,qC,qD,qE,qF]
  obtain⟨k2,afA,st2,rfl,hk2,_⟩:=ND h.str (by intro e;simp at e;rw[e]at hn;simp at hn)
  simp only at hk2
  simp only[hb2,hp2,hk2,hn.1.1,hn.2,List.length_map,getD_map,vO,RN,qA,qB,qC,qD,qE,qF]
  cases hst:D.st.getD n.toNat default
  ·simp only[hp,hpl,hb2,hp2,aU,List.length_append,RN,qA,qB,qC,qD,qE,qF]
   refine SC.oh (SC.mono (SE (h.frm (hF2 _)) hok n) ?_) ?_
   ·rintro v M' ⟨t,b,mb,a,cst,cse,rfl,g1,g2,g3,_⟩
    obtain⟨bs',fz',ar'⟩:=M'
    (try simp only[RN,qA,qB,qC,qD,qE,qF])
    exact⟨by simp only[Dk.goes,hst,g1];rfl,(hF2 _).trans g3⟩
   ·rintro dd M' ⟨g1,g2,g3⟩
    exact⟨by simp[Dk.goes,g1],g2,(hF2 _).trans g3⟩
  ·simp only[QD,O6,RN,qA,qB,qC,qD,qE,qF]
   exact⟨by simp only[Dk.goes,hst,Bool.not_true,Bool.false_and],⟨_,rfl,rfl,rfl⟩,hF2 _⟩
 ·have hy:∀n,y≠ .strike n:=fun n e=>hs ⟨n,e⟩
  have hx:y.dv= .iface y.ty y.cs:=rfl
  rw[hx]
  simp only[kD,kF,eX (ano hy),hp,hpl,hdl,hb2,hp2,hbox,aU,aN,aP,hn0,List.length_append,RN,qA,qB,qC,qD,qE,qF]
  refine ale (by simp) ?_
  refine SC.oh (SC.mono (SE (h.frm (hF2 _)) hok (-1)) ?_) ?_
  ·rintro v M' ⟨t,b,mb,a,cst,cse,rfl,g1,g2,g3,g4,g5,g6⟩
   obtain⟨bs',fz',ar'⟩:=M'
   have hin:=hok.adx g1
   (try simp only[RN,qA,qB,qC,qD,qE,qF])
   rw[←hx]
   refine SC.oh (SC.mono (ai3 am7 g2 (hin.sp (by decide)) y (mZ.same (n:=0) hin.ll.symm hin.hh.symm hde)) ?_) ?_
   ·rintro v M3 ⟨t',wF,GN,q1,q2,q3⟩
    obtain⟨bs3,fz3,ar3⟩:=M3
    (try simp only[RN,qA,qB,qC,qD,qE,qF])
    exact⟨by rw[WL hy,g1];simp[q1],(hF2 _).trans (g3.frs q3 g4 g5 g6)⟩
   ·rintro dd M3 ⟨q1,q2,q3⟩
    exact⟨by rw[WL hy,g1];simp[q1],q2,(hF2 _).trans (g3.frs q3 g4 g5 g6)⟩
  ·rintro dd M' ⟨g1,g2,g3⟩
   exact⟨by rw[WL hy,g1],g2,(hF2 _).trans g3⟩
end Go.Tel
namespace Go.Tel
open Go.Am
theorem VO {sz:Nat}{W st1:Bool}{c:PV}{xs ys:List DV}{ex:Bool}{bs:List (Option (List PV))}{fz:List Nat}{ar:List (Option Arr)}{K:PV→Mem→Prop}(h:slN sz W c xs ar)(hsz:0<sz)(hy:∀y∈ys,y.fits sz=true)(hn:st1=true→ys≠[])(hl:xs.length+ys.length≤1073741824)
  (hK:∀k ver st ar',(kOf c=some k∨k=ar.length)→ar'[k]?=some (some ⟨sz,xs++ys,ver,st⟩)→(∀j,j≠k→j<ar.length→ar'[j]?=ar[j]?)→ar.length≤ar'.length→st≠2→(st1=true→st=1)→K (.tsl k ver 0) ⟨bs,fz,ar'⟩):
  mP sz st1 c (.d (.slice ex ys)) ⟨bs,fz,ar⟩ K:=by
 rcases h with⟨rfl,rfl⟩|⟨k,ver,st,rfl,hk,h2,h3⟩
 ·simp only[mP,Dv]
  refine⟨hsz,hy,hn,trivial,by simp,by simpa using hl,?_⟩
  exact hK _ _ _ _ (.inr rfl) (by simp;rfl) (fun j hj hj2=>by rw[List.getElem?_append_left hj2]) (by simp) (by cases st1<;>simp) (fun e=>by simp[e])
 ·have hkl:k<ar.length:=(List.getElem?_eq_some_iff.1 hk).1
  simp only[mP,Dv,Mem.row,hk,if_true]
  refine⟨hsz,hy,hn,trivial,h2,hl,?_⟩
  exact hK k (ver+1) _ _ (.inl rfl) (by simp[hkl];rfl) (fun j hj _=>List.getElem?_set_ne (Ne.symm hj)) (by simp) (by cases st1<;>simp[h2]) (fun e=>by simp[e])
structure FrD (d:Nat) (ce cs ce' cs':PV) (M M':Mem):Prop where
 len:M.boxes.length≤M'.boxes.length
 aY:M.aA.length≤M'.aA.length
 box:∀i,i<M.boxes.length→i≠d→M'.boxes[i]?=M.boxes[i]?
 fz:∀i,i<M.boxes.length→(i∈M'.fz↔i∈M.fz)
 row:∀k,k<M.aA.length→kOf ce≠some k→kOf cs≠some k→M'.aA[k]?=M.aA[k]?
 oe:∀k,kOf ce'=some k→kOf ce=some k∨M.aA.length≤k
 os:∀k,kOf cs'=some k→kOf cs=some k∨M.aA.length≤k
theorem FrD.trans {d:Nat}{ce cs ce' cs' ce2 cs2:PV}{M M' M'':Mem}(h:FrD d ce cs ce' cs' M M')(h':FrD d ce' cs' ce2 cs2 M' M''):FrD d ce cs ce2 cs2 M M'':=
 {len:=Nat.le_trans h.len h'.len
  aY:=Nat.le_trans h.aY h'.aY
  box:=fun i hi hd=>(h'.box i (Nat.lt_of_lt_of_le hi h.len) hd).trans (h.box i hi hd)
  fz:=fun i hi=>(h'.fz i (Nat.lt_of_lt_of_le hi h.len)).trans (h.fz i hi)
  row:=fun k hk h1 h2=>(h'.row k (Nat.lt_of_lt_of_le hk h.aY) (fun e=>(h.oe k e).elim h1 (by omega)) (fun e=>(h.os k e).elim h2 (by omega))).trans (h.row k hk h1 h2)
  oe:=fun k hk=>(h'.oe k hk).elim (fun e=>h.oe k e) (fun e=> .inr (Nat.le_trans h.aY e))
  os:=fun k hk=>(h'.os k hk).elim (fun e=>h.os k e) (fun e=> .inr (Nat.le_trans h.aY e))}
theorem Frm.frD {d:Nat}{ce cs:PV}{M M':Mem}(h:Frm M M'):FrD d ce cs ce cs M M':=
 ⟨h.len,h.aY,fun i hi _=>h.box i hi,h.fz,fun k hk _ _=>h.row k hk,fun _=> .inl,fun _=> .inl⟩
theorem AZ.ap0 {D:Dk}{d:Nat}{ce cs:PV}{bs:List (Option (List PV))}{fz:List Nat}{ar ar':List (Option Arr)}(h:AZ D d ce cs ⟨bs,fz,ar⟩){k ver st:Nat}{es:List En}(hk:kOf ce=some k∨k=ar.length)(h1:ar'[k]?=some (some ⟨2,es.map En.dv,ver,st⟩))
  (h2:∀j,j≠k→j<ar.length→ar'[j]?=ar[j]?)(hl:ar.length≤ar'.length)(hst:st≠2):
  AZ {D with es:=es} d (.tsl k ver 0) cs ⟨bs.set d (some (jg D.su (.tsl k ver 0) cs)),fz,ar'⟩∧FrD d ce cs (.tsl k ver 0) cs ⟨bs,fz,ar⟩ ⟨bs.set d (some (jg D.su (.tsl k ver 0) cs)),fz,ar'⟩:=by
 have hdl:d<bs.length:=(List.getElem?_eq_some_iff.1 h.box).1
 have hne:∀j,kOf cs=some j→j≠k:=fun j hj e=>by
  subst e
  rcases hk with hk|hk
  ·exact h.dif j hk hj
  ·have:=TT h.str hj;simp only at this;omega
 constructor
 ·exact
  {box:=by simp[hdl]
   ent:= .inr ⟨k,ver,st,rfl,h1,hst,fun e=>by cases e⟩
   str:=EK h.str fun j A hj hA=>(h2 j (hne j hj) (List.getElem?_eq_some_iff.1 hA).1).trans hA
   dif:=fun j hj e=>by cases hj;exact hne _ e rfl
   nb:=h.nb
   fzb:=fun i hi=>by have:=h.fzb i hi;simpa using this}
 ·exact
  {len:=by simp
   aY:=hl
   box:=fun i _ hd=>by simp only;rw[List.getElem?_set_ne (Ne.symm hd)]
   fz:=fun _ _=>Iff.rfl
   row:=fun j hj h3 _=>h2 j (fun e=>by
    subst e
    rcases hk with hk|hk
    ·exact h3 hk
    ·simp only at hj;omega) hj
   oe:=fun j hj=>by
    cases hj
    rcases hk with hk|hk
    ·exact .inl hk
    ·exact .inr (by simp only;omega)
   os:=fun _=> .inl}
theorem AZ.ap2 {D:Dk}{d:Nat}{ce cs:PV}{bs:List (Option (List PV))}{fz:List Nat}{ar ar':List (Option Arr)}(h:AZ D d ce cs ⟨bs,fz,ar⟩){k ver:Nat}{l:List Bool}(hk:kOf cs=some k∨k=ar.length)(h1:ar'[k]?=some (some ⟨1,l.map .bool,ver,1⟩))
  (h2:∀j,j≠k→j<ar.length→ar'[j]?=ar[j]?)(hl:ar.length≤ar'.length):
  AZ {D with st:=l} d ce (.tsl k ver 0) ⟨bs.set d (some (jg D.su ce (.tsl k ver 0))),fz,ar'⟩∧FrD d ce cs ce (.tsl k ver 0) ⟨bs,fz,ar⟩ ⟨bs.set d (some (jg D.su ce (.tsl k ver 0))),fz,ar'⟩:=by
 have hdl:d<bs.length:=(List.getElem?_eq_some_iff.1 h.box).1
 have hne:∀j,kOf ce=some j→j≠k:=fun j hj e=>by
  subst e
  rcases hk with hk|hk
  ·exact h.dif j hj hk
  ·have:=TT h.ent hj;simp only at this;omega
 constructor
 ·exact
  {box:=by simp[hdl]
   ent:=EK h.ent fun j A hj hA=>(h2 j (hne j hj) (List.getElem?_eq_some_iff.1 hA).1).trans hA
   str:= .inr ⟨k,ver,1,rfl,h1,by decide,fun _=> .inl rfl⟩
   dif:=fun j hj e=>by cases e;exact hne _ hj rfl
   nb:=h.nb
   fzb:=fun i hi=>by have:=h.fzb i hi;simpa using this}
 ·exact
  {len:=by simp
   aY:=hl
   box:=fun i _ hd=>by simp only;rw[List.getElem?_set_ne (Ne.symm hd)]
   fz:=fun _ _=>Iff.rfl
   row:=fun j hj _ h3=>h2 j (fun e=>by
    subst e
    rcases hk with hk|hk
    ·exact h3 hk
    ·simp only at hj;omega) hj
   oe:=fun _=> .inl
   os:=fun j hj=>by
    cases hj
    rcases hk with hk|hk
    ·exact .inl hk
    ·exact .inr (by simp only;omega)}
def Xt:aB:=
     (.seq
     (.region true [
      of 45 (.load false 1) [.t 2] 2,
      of 46 (.load false 1) [.t 2] 2,
      oa 47 .aW 46,
      of 48 (.fld 2) [.t 47] 2,
      of 49 (.load false 1) [.t 48] 2,
      of 50 (.fld 0) [.t 3] 1,
      of 51 (.load false 1) [.t 50] 1,
      of 52 (.fld 1) [.t 3] 1,
      of 53 (.load false 1) [.t 52] 1,
      oa 54 (.ak F.slices_Clone_int) 53,
      ob 55 (.build [.int .i64 0, .slice true []] [(0,1),(1,1)]) 51 54,
      of 56 (.iH 2 [.agg [.int .i64 0, .slice true []]] [0]) [.t 55] 1,
      ob 57 (.app 2 false) 49 56,
      oa 58 .aW 45,
      of 59 (.fld 2) [.t 58] 2,
      os (.store 1) [.t 59, .t 57] 0] 0 [2] [])
     (.seq
      (.region true [
       of 60 (.load false 1) [.t 2] 2,
       of 61 (.load false 1) [.t 2] 2,
       oa 62 .aW 61,
       of 63 (.fld 3) [.t 62] 2,
       of 64 (.load false 1) [.t 63] 2,
       of 65 (.iH 1 [.bool false] [0]) [.c (.bool false)] 1,
       ob 66 (.app 1 true) 64 65,
       oa 67 .aW 60,
       of 68 (.fld 3) [.t 67] 2,
       os (.store 1) [.t 68, .t 66] 0] 0 [] [])
      (.seq
      (rg [
       mk 4 (kI 0)] 0 [4])
      .ret)))
theorem Wp {D:Dk}{d:Nat}{ce cs:PV}{bs:List (Option (List PV))}{fz:List Nat}{ar:List (Option Arr)}(h:AZ D d ce cs ⟨bs,fz,ar⟩)(x:En)(hx:x.ns.length≤1000)(hel:D.es.length≤1000)(hsl:D.st.length≤1000){pb:Nat}(hp:bs[pb]?=some (some [.ptr d 0]))(hpd:pb≠d){nb na:Nat}{Q:Ex→St→Prop}
  (hQ:∀ce' cs' M',AZ {D with es:=D.es++ [x],st:=D.st++ [false]} d ce' cs' M'→FrD d ce cs ce' cs' ⟨bs,fz,ar⟩ M'→Q .ret ⟨[(4, .d (.int .i64 0))],M'⟩):
  pwp C nb na Xt Q ⟨[(2, .ptr pb 0),(3, .d (.aX [.int .i64 x.kind, .slice false (x.ns.map ay)]))],⟨bs,fz,ar⟩⟩:=by
 have hbox:=h.box
 rw[jg]at hbox
 simp only at hbox
 have hdl:d<bs.length:=(List.getElem?_eq_some_iff.1 hbox).1
 have hpl:pb<bs.length:=(List.getElem?_eq_some_iff.1 hp).1
 have hnb:=h.nb
 simp only at hnb
 obtain⟨o1,o2,o3⟩:=agd h.ent
 obtain⟨u1,u2,u3⟩:=agd h.str
 have hcl:Pure C F.slices_Clone_int [.slice false (x.ns.map ay)] (.d (.slice false (x.ns.map ay))) []:=Zq (IC (x.ns.map ay) zl (by simp;omega)) rfl
 rw[Xt]
 simp only[hp,hpl,hdl,hbox,RN,qA,qB,qC,qD,qE,qF]
 refine au rfl rfl hcl ?_
 simp only[hp,hpl,hdl,hbox,zi,DV.strip,RN,qA,qB,qC,qD,qE,qF]
 refine VO h.ent (by decide) (by intro y hy;simp only[List.mem_singleton]at hy;subst hy;rfl) (by simp) (by simp;omega) fun k ver st ar1 a1 a2 a3 a4 a5 _=> ?_
 obtain⟨g1,g2⟩:=h.ap0 (k:=k) (ver:=ver) (st:=st) (es:=D.es++ [x]) (ar':=ar1) a1 (by rw[a2];simp[wO]) a3 a4 a5
 simp only[hbox,hdl,hnb,bM,dN,RN,qA,qB,qC,qD,qE,qF]
 obtain⟨B,hB⟩:∃B,B=bs.set d (some (jg D.su (.tsl k ver 0) cs)):=⟨_,rfl⟩
 have hB':bs.set d (some [.d (.aX D.su.cs), .d (.slice false (D.su.days.map Fb)), .tsl k ver 0,cs])=B:=by rw[hB,jg]
 rw[←hB]at g1 g2
 simp only[hB']
 have hBb:=g1.box
 rw[jg]at hBb
 simp only at hBb
 have hBl:d<B.length:=(List.getElem?_eq_some_iff.1 hBb).1
 have hBn:=g1.nb
 simp only at hBn
 have hBp:B[pb]?=some (some [.ptr d 0]):=by rw[hB,List.getElem?_set_ne (Ne.symm hpd)];exact hp
 have aql:pb<B.length:=(List.getElem?_eq_some_iff.1 hBp).1
 simp only[hBp,aql,hBl,hBb,vO,RN,qA,qB,qC,qD,qE,qF]
 refine VO g1.str (by decide) (by intro y hy;simp only[List.mem_singleton]at hy;subst hy;rfl) (by simp) (by simp;omega) fun k2 afA st2 ar2 b1 b2 b3 b4 b5 b6=> ?_
 have hst2:=b6 rfl
 subst hst2
 obtain⟨g3,g4⟩:=g1.ap2 (k:=k2) (ver:=afA) (l:=D.st++ [false]) (ar':=ar2) b1 (by rw[b2];simp) b3 b4
 simp only[hBb,hBl,hBn,bM,dN,RN,qA,qB,qC,qD,qE,qF]
 refine hQ _ _ _ g3 ?_
 rw[←jg]
 exact g2.trans g4
end Go.Tel
