/-
  Part 14 of the proof of a law of plates: an abstract machine over the model, contracts of functions, plain laws.
  Conditions: none.
-/
import Derived.Test.YticjmjdcggomgaaGreatDoorM13
import Derived.RecoverIn
import Derived.Shelf.Sort.Plain
set_option linter.all false
namespace Go.Am
def isDeferOps (f1 : FuncId) (te t3 : Nat) : List Oper → Bool
 | [o1, o2] => o1.guard.isNone && o2.guard.isNone && o1.dst == some t3 && o2.dst.isNone &&
  (match o1.op with | .makeFunc (.func g) fi ca => g == f1 && fi.isEmpty && (match ca.toList with | [.tmp t] => t == te | _ => false) | _ => false) &&
  (match o2.op with | .defer c => (match c.callee with | .value (.tmp t) => t == t3 | _ => false) && c.args.isEmpty | _ => false)
 | _ => false
def isRecoverOps (t5 : Nat) : List Oper → Bool
 | [o] => o.guard.isNone && o.dst == some t5 && (match o.op with | .call c => (match c.callee with | .builtin .recover => true | _ => false) && c.args.isEmpty | _ => false)
 | _ => false
def chkTry (P : Program) (f f1 : FuncId) (nargs n n1 te t3 t5 : Nat) (pc0 pc2 pc3 : PCode) : Bool :=
 match P.funcs[f]?, P.funcs[f1]? with
 | some fn, some fn1 => match fn.body, fn1.body with
  | some (.seq c0 (.seq (.region _ ops false) c2)), some (.seq (.region _ ops1 false) c3) =>
   fn.ntmps == n && fn1.ntmps == n1 && decide (nargs ≤ n) && decide (1 ≤ n1) && decide (t3 < n) && decide (t5 < n1) && decide (1 ≤ t5) && decide (te ≠ t3) && chk P n c0 pc0 && chk P n c2 pc2 && chk P n1 c3 pc3 && plainC pc3 && okRes P fn.results.toList [.cell te false 1] && fn1.results.isEmpty &&
    callable P f1 && noDst te c2 && isDeferOps f1 te t3 ops.toList && isRecoverOps t5 ops1.toList
  | _, _ => false
 | _, _ => false
section
variable {C : Ctx}
theorem Rep.ptr_any {w w' : World} {O O' : Nat → Prop} {M : Mem} {E : Emb} {v : Value} {b o : Nat} (h : Rep w O M E v (.ptr b o)) : Rep w' O' M E v (.ptr b o) := by
 cases h with | ptr hl hb ho => exact .ptr hl hb ho
def tryEnd (te : Nat) (b : Nat) (K : PV → Mem → Prop) (e : Ex) (s : St) : Prop :=
 match e with
 | .normal => runLoad false 1 (.ptr b 0) s.mem fun v => K v s.mem
 | .ret => runLoad false 1 (.ptr b 0) s.mem fun v => K v s.mem
 | _ => False
def tryQ (C : Ctx) (te t5 : Nat) (pc3 : PCode) (b : Nat) (K : PV → Mem → Prop) (e : Ex) (s : St) : Prop :=
 match e with
 | .normal => pwp C s.mem.boxes.length s.mem.arrs.length pc3 (tryEnd te b K) ⟨[(0, .ptr b 0), (t5, .d .nilIface)], s.mem⟩
 | .ret => pwp C s.mem.boxes.length s.mem.arrs.length pc3 (tryEnd te b K) ⟨[(0, .ptr b 0), (t5, .d .nilIface)], s.mem⟩
 | .panic d => pwp C s.mem.boxes.length s.mem.arrs.length pc3 (tryEnd te b K) ⟨[(0, .ptr b 0), (t5, .d d)], s.mem⟩
 | .exit _ => False
theorem try_sc (hm : C.P.follows .mixedOrders = true) {f f1 : FuncId} {n n1 te t3 t5 : Nat} {pc0 pc2 pc3 : PCode} {args : List PV} {M : Mem} {K : PV → Mem → Prop} {KP : DV → Mem → Prop} (hc : chkTry C.P f f1 args.length n n1 te t3 t5 pc0 pc2 pc3 = true)
  (h : pwp C M.boxes.length M.arrs.length pc0 (fun e s => e = .normal ∧ ∃ b, look s.env te = .ptr b 0 ∧ pwp C s.mem.boxes.length s.mem.arrs.length pc2 (tryQ C te t5 pc3 b K) ⟨(t3, .dead) :: s.env, s.mem⟩) ⟨envOf 0 args, M⟩) : SC C f args M K KP := by
 unfold chkTry at hc
 split at hc
 case h_2 => cases hc
 rename_i fn fn1 hfn hfn1
 split at hc
 case h_2 => cases hc
 rename_i c0 id ops c2 id1 ops1 c3 hbody hbody1
 simp only [Bool.and_eq_true, beq_iff_eq, decide_eq_true_eq] at hc
 obtain ⟨⟨⟨⟨⟨⟨⟨⟨⟨⟨⟨⟨⟨⟨⟨⟨⟨hn, hn1⟩, hna⟩, h1n1⟩, ht3⟩, ht5⟩, h1t5⟩, hte⟩, hc0⟩, hc2⟩, hc3⟩, hp3⟩, hres⟩, hres1⟩, hcall⟩, hnd⟩, hdo⟩, hro⟩ := hc
 intro X w E vals hS hA
 have hvl : vals.length = args.length := hA.length
 have hi : InS C X ⟨w.heap.size, [], false, none⟩ n ⟨envOf 0 args, M⟩ { tmps := vals.toArray ++ Array.replicate (fn.ntmps - vals.toArray.size) undef, defers := [] } w E :=
  {sim := hS
   size := by simp; omega
   defers := okD_nil
   fix := fun _ h => by cases h
   env := fun t => by
    simp only [look_envOf, Nat.not_lt_zero, if_false, Nat.sub_zero]
    cases ht : args[t]? with
    | none => exact .dead
    | some p =>
     obtain ⟨v, hv, hr⟩ := hA.get' t p ht
     have hlt : t < vals.length := (List.getElem?_eq_some_iff.1 hv).1
     have : ({ tmps := vals.toArray ++ Array.replicate (fn.ntmps - vals.toArray.size) undef, defers := [] } : Act).eval (.tmp t) = v := by
      simp only [Act.eval, Array.getD_eq_getD_getElem?]
      rw [Array.getElem?_append_left (by simpa using hlt)]
      simp [hv]
     rw [this]
     exact hr }
 have hlow : ∀ b, C.low b → b < w.heap.size := fun b hb => hS.xlt b (hS.lowX b hb)
 refine (callsIn_wide (n := 0)).1 (callsIn_of_wp_marks (F := Fence.wide) hfn hbody trivial ?_)
 refine wpIn_seq (F := RF none) (wpIn_mono (code_sound hm c0 pc0 (Nat.le_refl _) (Nat.le_refl _) none [] false none _ _ _ w E (fun _ h => by cases h) (.inl rfl) (fun e => by cases e) hc0 h hi (.refl _ _ _)) fun e a1 w1 hp => ?_)
 cases e with
 | exit id => obtain ⟨_, _, _, _, ⟨he, _⟩, _⟩ := hp; cases he
 | ret => obtain ⟨_, _, _, _, ⟨he, _⟩, _⟩ := hp; cases he
 | panic ch => obtain ⟨_, _, _, _, _, _, _, ⟨he, _⟩, _⟩ := hp; cases he
 | goto l => exact hp.elim
 | outgrown => exact hp.elim
 | normal =>
  obtain ⟨X1, s1, E1, hx1, ⟨_, b, hte1, hp2⟩, hi1, hf1⟩ := hp
  have hptr := hi1.env te
  rw [hte1] at hptr
  obtain ⟨blk, hblk⟩ : ∃ blk, a1.eval (.tmp te) = .pointer (some ⟨blk, 0, none⟩) := by
   generalize a1.eval (.tmp te) = v at hptr
   cases hptr with
   | ptr hl hb ho => exact ⟨_, rfl⟩
  rw [hblk] at hptr
  unfold isDeferOps at hdo
  split at hdo
  case h_2 => cases hdo
  rename_i o1 o2 hops
  simp only [Bool.and_eq_true, beq_iff_eq, Option.isNone_iff_eq_none] at hdo
  obtain ⟨⟨⟨⟨⟨hg1, hg2⟩, hd1⟩, hd2⟩, ho1⟩, ho2⟩ := hdo
  obtain ⟨ops, rfl⟩ : ∃ l : List Oper, ops = l.toArray := ⟨ops.toList, by simp⟩
  simp only at hops
  subst hops
  split at ho1
  case h_2 => cases ho1
  rename_i g fi ca hop1
  simp only [Bool.and_eq_true, beq_iff_eq, Array.isEmpty_iff] at ho1
  obtain ⟨⟨rfl, rfl⟩, hca⟩ := ho1
  split at hca
  case h_2 => cases hca
  rename_i t hcal
  simp only [beq_iff_eq] at hca
  have hca := hca.symm
  subst hca
  obtain ⟨ca, rfl⟩ : ∃ l : List Operand, ca = l.toArray := ⟨ca.toList, by simp⟩
  simp only at hcal
  subst hcal
  split at ho2
  case h_2 => cases ho2
  rename_i cl hop2
  simp only [Bool.and_eq_true, Array.isEmpty_iff] at ho2
  obtain ⟨hcallee, hcargs⟩ := ho2
  split at hcallee
  case h_2 => cases hcallee
  rename_i t' hcal'
  simp only [beq_iff_eq] at hcallee
  subst hcallee
  obtain ⟨D1, hD1⟩ : ∃ D1 : Deferred, D1 = { target := .fn (.func g) #[.pointer (some ⟨blk, 0, none⟩)], args := #[] } := ⟨_, rfl⟩
  obtain ⟨ms1, hms1, hmk1, _⟩ := hi1.defers
  rw [List.append_nil] at hms1
  have hrun1 : (execOp a1.eval o1).run C.P w1 = .ok (.value (.func (.func g) #[] #[.pointer (some ⟨blk, 0, none⟩)])) w1 := by simp [execOp, hop1, Instr.makeFunc, hblk]
  have hev : (a1.put (some t') (.func (.func g) #[] #[.pointer (some ⟨blk, 0, none⟩)])).eval (.tmp t') = .func (.func g) #[] #[.pointer (some ⟨blk, 0, none⟩)] := by
   rw [eval_put_eq, if_pos ⟨rfl, by rw [hi1.size]; exact ht3⟩]
  have hrun2 : (execOp (a1.put (some t') (.func (.func g) #[] #[.pointer (some ⟨blk, 0, none⟩)])).eval o2).run C.P w1 = .ok (.defer D1) w1 := by
   simp [execOp, hop2, resolve, hcal', hcargs, hev, Deferred.ofValue, hD1]
  refine wpIn_seq (F := RF none) (wpIn_region (F := RF none) ?_)
  show wpOpsIn (RF none) 0 C.P [o1, o2].toArray _ [0, 1] a1 w1
  have hw1 : Region.wanted o1 (yielded [o1, o2].toArray a1.tmps) = true := by simp [Region.wanted, hg1]
  have hw2 : ∀ a : Act, Region.wanted o2 (yielded [o1, o2].toArray a.tmps) = true := fun a => by simp [Region.wanted, hg2]
  simp only [wpOpsIn, List.getElem?_toArray, List.getElem?_cons_zero, List.getElem?_cons_succ, hw1, hw2, if_true]
  refine ⟨fun _ _ => trivial, ?_⟩
  rw [show Oper.semAt (RF none).round a1.eval o1 = execOp a1.eval o1 from rfl, hrun1]
  simp only [Oper.uponIn_value, hd1]
  refine ⟨fun _ _ => trivial, ?_⟩
  rw [show Oper.semAt (RF none).round (a1.put (some t') (.func (.func g) #[] #[.pointer (some ⟨blk, 0, none⟩)])).eval o2 = execOp (a1.put (some t') (.func (.func g) #[] #[.pointer (some ⟨blk, 0, none⟩)])).eval o2 from rfl, hrun2]
  simp only [Oper.uponIn_defer, hd2]
  show (Code.wpIn (RF none) 0 C.P c2 (bodyPostM (RF none) 0 C.P fn fun e w' => Fin C X w M E K KP w' e)) { a1.put (some t') (.func (.func g) #[] #[.pointer (some ⟨blk, 0, none⟩)]) with defers := D1 :: a1.defers } w1
  have hi2 : InS C X1 ⟨w1.heap.size, D1 :: a1.defers, false, some (te, .pointer (some ⟨blk, 0, none⟩))⟩ n ⟨(t', .dead) :: s1.env, s1.mem⟩ { a1.put (some t') (.func (.func g) #[] #[.pointer (some ⟨blk, 0, none⟩)]) with defers := D1 :: a1.defers } w1 E1 :=
   {sim := hi1.sim
    size := by simp [Act.put, hi1.size]
    defers := okD_nil
    fix := fun q hq => by
     cases hq
     show (a1.put (some t') _).eval (.tmp te) = _
     rw [eval_put_eq, if_neg fun hh => hte hh.1]
     exact hblk
    env := fun t => by
     show Rep _ _ _ _ ((a1.put (some t') _).eval (.tmp t)) _
     rw [eval_put_eq]
     simp only [look]
     by_cases ht : t' = t
     ·subst ht; simp only [beq_self_eq_true, cond_true]; exact .dead
     ·have h1 : (t' == t) = false := by simp [ht]
      have h2 : ¬ (t = t' ∧ t' < a1.tmps.size) := fun hh => ht hh.1.symm
      simp only [h1, cond_false, if_neg h2]
      exact hi1.env t }
  refine wpIn_mono (F := RF none) (code_sound hm c2 pc2 (Nat.le_refl _) (Nat.le_refl _) none (D1 :: a1.defers) false (some (te, .pointer (some ⟨blk, 0, none⟩))) _ _ _ w1 E1 (fun q hq => by cases hq; exact hnd) (.inl rfl) (fun e => by cases e) hc2 hp2 hi2 (.refl _ _ _)) fun e a2 w2 hp => ?_
  have hD : ∀ (u u' : FrameMode) (X2 : Nat → Prop) (w3 : World) (M2 : Mem) (E2 : Emb) (d : DV) (v : Value), u ≠ .run → (∀ b, X1 b → X2 b) → Sim C X2 w3 M2 E2 → From w1 s1.mem E1 w3 M2 E2 → RepD w3 (away X2 M2 E2) v d → okM w.heap.size X2 a1.defers w3 →
    (∀ (c₀ : Frame) (cs : List Frame), c₀.mode = u → (∃ cs', (recoverD (c₀ :: cs) = some (v, cs') ∧ cs' = { c₀ with mode := u' } :: cs)) ∨ (recoverD (c₀ :: cs) = none ∧ v = .nilIface ∧ u' = u)) → settle u' = .returning →
    pwp C M2.boxes.length M2.arrs.length pc3 (tryEnd te b K) ⟨[(0, .ptr b 0), (t5, .d d)], M2⟩ →
    ∀ tmps2 : Array Value, (tmps2.getD te undef = .pointer (some ⟨blk, 0, none⟩)) → LeavesInM Fence.wide 0 C.P fn tmps2 (fun e w' => Fin C X w M E K KP w' e) (D1 :: a1.defers) u w3 := by
   intro u u' X2 w3 M2 E2 d v hu hx2 hS2 hF2 hrd hmk2 hrec hset hp3' tmps2 htm
   have hF13 : From w M E w3 M2 E2 := hf1.trans hF2
   refine ⟨hu, .inr ⟨fun h => by simp [Fence.wide] at h, .func g, #[.pointer (some ⟨blk, 0, none⟩)], g, #[.pointer (some ⟨blk, 0, none⟩)], by rw [hD1], by rw [hD1]; simp [invoke, run_callFunc hcall], fun _ _ => trivial, ?_⟩⟩
   refine callsDIn_of_wpSIn (F := Fence.wide) hfn1 hbody1 trivial fun c₀ cs hmode => ?_
   unfold isRecoverOps at hro
   split at hro
   case h_2 => cases hro
   rename_i r hops1
   simp only [Bool.and_eq_true, beq_iff_eq, Option.isNone_iff_eq_none] at hro
   obtain ⟨⟨hgr, hdr⟩, hor⟩ := hro
   obtain ⟨ops1, rfl⟩ : ∃ l : List Oper, ops1 = l.toArray := ⟨ops1.toList, by simp⟩
   simp only at hops1
   subst hops1
   split at hor
   case h_2 => cases hor
   rename_i clr hopr
   simp only [Bool.and_eq_true, Array.isEmpty_iff] at hor
   obtain ⟨hcr, hcra⟩ := hor
   split at hcr
   case h_2 => cases hcr
   rename_i hcalr
   have hrunr : ∀ a : Act, (execOp a.eval r).run C.P w3 = .ok .recover w3 := fun a => by
    obtain ⟨cal, cas, cat⟩ := clr
    simp only at hcalr hcra
    subst hcalr hcra
    simp [execOp, hopr, resolve, invoke]
    rfl
   obtain ⟨a3, ha3⟩ : ∃ a3 : Act, a3 = { tmps := #[.pointer (some ⟨blk, 0, none⟩)] ++ Array.replicate (fn1.ntmps - #[Value.pointer (some ⟨blk, 0, none⟩)].size) undef, defers := [] } := ⟨_, rfl⟩
   rw [← ha3]
   have hsz3 : a3.tmps.size = n1 := by rw [ha3]; simp; omega
   have fin : ∀ cs', cs' = { c₀ with mode := u' } :: cs → Code.wpSIn Fence.wide 0 C.P c3 (bodyPostS C.P fn1 c₀ cs fun e u' w' => match e with
     | .returned _ => LeavesInM Fence.wide 0 C.P fn tmps2 (fun e w' => Fin C X w M E K KP w' e) a1.defers (settle u') w'
     | .panicked chain => LeavesInM Fence.wide 0 C.P fn tmps2 (fun e w' => Fin C X w M E K KP w' e) a1.defers (raised u' chain) w'
     | .outgrown => Fin C X w M E K KP w' .outgrown) (a3.put (some t5) v) cs' w3 := by
    rintro cs' rfl
    refine wpSIn_of_wpIn rfl ?_
    have hi3 : InS C X2 ⟨w3.heap.size, [], true, none⟩ n1 ⟨[(0, .ptr b 0), (t5, .d d)], M2⟩ (a3.put (some t5) v) w3 E2 :=
     {sim := hS2
      size := by simp [Act.put, hsz3]
      fix := fun _ h => by cases h
      defers := by
       have : (a3.put (some t5) v).defers = [] := by rw [ha3]; rfl
       rw [this]; exact okD_nil
      env := fun t => by
       rw [eval_put_eq, hsz3]
       simp only [look]
       by_cases ht0 : 0 = t
       ·subst ht0
        have : ¬ (0 = t5 ∧ t5 < n1) := fun hh => by omega
        rw [if_neg this]
        simp only [beq_self_eq_true, cond_true]
        have e0 : a3.eval (.tmp 0) = .pointer (some ⟨blk, 0, none⟩) := by
         rw [ha3]
         simp only [Act.eval, Array.getD_eq_getD_getElem?]
         rw [Array.getElem?_append_left (by simp)]
         rfl
        rw [e0]
        exact (hptr.from hF2).ptr_any
       ·have h0 : (0 == t) = false := by simp [ht0]
        simp only [h0, cond_false]
        by_cases ht5' : t5 = t
        ·subst ht5'
         rw [if_pos ⟨rfl, ht5⟩]
         simp only [beq_self_eq_true, cond_true]
         exact .d hrd
        ·have h5 : (t5 == t) = false := by simp [ht5']
         simp only [h5, cond_false]
         exact .dead }
    have := code_sound hm c3 pc3 (nb := M2.boxes.length) (na := M2.arrs.length) (M₀ := M2) (E₀ := E2) (w₀ := w3) (Nat.le_refl _) (Nat.le_refl _) none [] true none _ _ _ w3 E2 (fun _ h => by cases h) (.inl rfl) (fun _ => hp3) hc3 hp3' hi3 (.refl _ _ _)
    refine wpIn_mono (F := RF none) this fun e a4 w4 hp4 => ?_
    have main : ∀ (X4 : Nat → Prop) (s4 : St) (E4 : Emb), (∀ b, X2 b → X4 b) → tryEnd te b K .normal s4 → InS C X4 ⟨w3.heap.size, [], true, none⟩ n1 s4 a4 w4 E4 → From w3 M2 E2 w4 s4.mem E4 →
      a4.defers = [] ∧ ∃ u2, ({ c₀ with mode := u' } :: cs : List Frame) = { c₀ with mode := u2 } :: cs ∧ ∃ v, (results fn1 a4.tmps).run C.P w4 = .ok v w4 ∧ LeavesInM Fence.wide 0 C.P fn tmps2 (fun e w' => Fin C X w M E K KP w' e) a1.defers (settle u2) w4 := by
     intro X4 s4 E4 hx4 hend hi4 hf4
     obtain ⟨ms4, hms4, _, hex4⟩ := hi4.defers
     have hd4 : a4.defers = [] := by rw [hms4, hex4 rfl]; rfl
     refine ⟨hd4, u', rfl, ?_⟩
     have hr1 : (results fn1 a4.tmps).run C.P w4 = .ok (.tuple #[]) w4 := by
      rw [results_eq]
      have : fn1.results = #[] := by simpa using hres1
      rw [this]; simp
     refine ⟨_, hr1, ?_⟩
     rw [hset]
     have hmk4 : okM w.heap.size X4 a1.defers w4 := by
      refine ⟨fun d hd => ?_, hmk2.2⟩
      obtain ⟨D, q1, q2, q3, q4⟩ := hmk2.1 d hd
      exact ⟨D, q1, q2, hx4 _ q3, hf4.keep _ _ (fun ho => hS2.owned_notX ho q3) q4⟩
     have hF4 : From w M E w4 s4.mem E4 := hF13.trans hf4
     rw [← List.append_nil a1.defers]
     refine leaves_marks (by simp) hmk4 fun w5 hsh => ?_
     obtain ⟨q1, q2, q3⟩ := shut_sim hi4.sim hlow hF4 hmk4 hsh
     have hptr4 : Rep w5 (away X4 s4.mem E4) s4.mem E4 (.pointer (some ⟨blk, 0, none⟩)) (.ptr b 0) := (((hptr.from hF2).ptr_any (O' := away X2 M2 E2) (w' := w3)).from hf4).ptr_any
     have hi5 : InS C X4 ⟨w5.heap.size, [], true, none⟩ tmps2.size ⟨[(te, .ptr b 0)], s4.mem⟩ { tmps := tmps2, defers := [] } w5 E4 :=
      {sim := q1, size := rfl, defers := okD_nil, fix := fun _ h => by cases h
       env := fun t => by
        simp only [look]
        by_cases ht : te = t
        ·subst ht; simp only [beq_self_eq_true, cond_true]
         have : ({ tmps := tmps2, defers := [] } : Act).eval (.tmp te) = .pointer (some ⟨blk, 0, none⟩) := htm
         rw [this]; exact hptr4
        ·have h1 : (te == t) = false := by simp [ht]
         simp only [h1, cond_false]; exact .dead }
     have hrr : runRes [.cell te false 1] ⟨[(te, .ptr b 0)], s4.mem⟩ (fun vs => K (resV vs) s4.mem) := by
      simp only [runRes, look, beq_self_eq_true, cond_true, resV]
      exact hend
     obtain ⟨v5, ps5, g1, g2, g3⟩ := results_sound hi5 hres hrr
     have hlx : ∀ b, X b → X4 b := fun b hb => hx4 b (hx2 b (hx1 b hb))
     exact ⟨v5, g1, _, s4.mem, E4, g2, q1.less hlx hS.lowX, q2, g3.less hlx⟩
    cases e with
    | normal =>
     obtain ⟨X4, s4, E4, hx4, hend, hi4, hf4⟩ := hp4
     exact main X4 s4 E4 hx4 hend hi4 hf4
    | ret =>
     obtain ⟨X4, s4, E4, hx4, hend, hi4, hf4⟩ := hp4
     exact main X4 s4 E4 hx4 hend hi4 hf4
    | exit id => obtain ⟨_, _, _, _, he, _⟩ := hp4; exact he.elim
    | panic ch => obtain ⟨_, _, _, _, _, _, _, he, _⟩ := hp4; exact he.elim
    | goto l => exact hp4.elim
    | outgrown => exact hp4.elim
   refine wpSIn_seq (wpSIn_region ?_)
   show wpOpsSIn Fence.wide 0 C.P [r].toArray _ [0] a3 (c₀ :: cs) w3
   have hwr : Region.wanted r (yielded [r].toArray a3.tmps) = true := by simp [Region.wanted, hgr]
   simp only [wpOpsSIn, List.getElem?_toArray, List.getElem?_cons_zero, hwr, if_true, hrunr]
   refine ⟨fun _ _ => trivial, ?_⟩
   rcases hrec c₀ cs hmode with ⟨cs', q1, q2⟩ | ⟨q1, q2, q3⟩
   ·rw [q1]
    simp only [hdr]
    exact fin cs' q2
   ·rw [q1]
    simp only [hdr]
    rw [← q2]
    exact fin (c₀ :: cs) (by rw [q3, ← hmode])
  have hlow1 : ∀ b, C.low b → b < w1.heap.size := fun b hb => by have := hlow b hb; have := hf1.size; omega
  have hmark : ∀ (X2 : Nat → Prop) (w2 w3 : World) (M2 : Mem) (E2 : Emb) (ms2 : List Deferred), (∀ b, X1 b → X2 b) → From w1 s1.mem E1 w2 M2 E2 → okM w1.heap.size X2 ms2 w2 → Shut ms2 w2 w3 → okM w.heap.size X2 a1.defers w3 := by
   intro X2 w2 w3 M2 E2 ms2 hx2 hf2 hmk2 hsh
   rw [hms1]
   refine ⟨fun d hd => ?_, hmk1.2⟩
   obtain ⟨D, q1, q2, q3, q4⟩ := hmk1.1 d hd
   refine ⟨D, q1, q2, hx2 _ q3, ?_⟩
   rw [hsh.keep D fun d' hd' he => ?_]
   ·exact hf2.keep _ _ (fun ho => hi1.sim.owned_notX ho q3) q4
   ·obtain ⟨D', g1, g2, _, _⟩ := hmk2.1 d' hd'
    rw [g1] at he
    injection he with he
    have := getElem?_lt q4
    omega
  have ret : ∀ (X2 : Nat → Prop) (s2 : St) (E2 : Emb), (∀ b, X1 b → X2 b) → pwp C s2.mem.boxes.length s2.mem.arrs.length pc3 (tryEnd te b K) ⟨[(0, .ptr b 0), (t5, .d .nilIface)], s2.mem⟩ →
    InS C X2 ⟨w1.heap.size, D1 :: a1.defers, false, some (te, .pointer (some ⟨blk, 0, none⟩))⟩ n s2 a2 w2 E2 → From w1 s1.mem E1 w2 s2.mem E2 → LeavesInM Fence.wide 0 C.P fn a2.tmps (fun e w' => Fin C X w M E K KP w' e) a2.defers .returning w2 := by
   intro X2 s2 E2 hx2 hp3' hi2' hf2
   obtain ⟨ms2, hms2, hmk2, _⟩ := hi2'.defers
   rw [hms2]
   refine leaves_marks (by simp) hmk2 fun w3 hsh => ?_
   obtain ⟨q1, q2, q3⟩ := shut_sim hi2'.sim hlow1 hf2 hmk2 hsh
   refine hD .returning .returning X2 w3 s2.mem E2 .nilIface .nilIface (by simp) hx2 q1 q2 .nilIface (hmark X2 w2 w3 s2.mem E2 ms2 hx2 hf2 hmk2 hsh) (fun c₀ cs hm => .inr ⟨by simp [recoverD, hm], rfl, rfl⟩) rfl hp3' _ ?_
   exact hi2'.fix _ rfl
  cases e with
  | normal => obtain ⟨X2, s2, E2, hx2, h1, h2, h3⟩ := hp; exact ret X2 s2 E2 hx2 h1 h2 h3
  | ret => obtain ⟨X2, s2, E2, hx2, h1, h2, h3⟩ := hp; exact ret X2 s2 E2 hx2 h1 h2 h3
  | exit id => obtain ⟨_, _, _, _, he, _⟩ := hp; exact he.elim
  | goto l => exact hp.elim
  | outgrown => exact hp.elim
  | panic ch =>
   obtain ⟨X2, v, d, M2, E2, hx2, rfl, hp3', hS2, hf2, hrd, ⟨ms2, hms2, hmk2, _⟩, hfix⟩ := hp
   show LeavesInM Fence.wide 0 C.P fn a2.tmps (fun e w' => Fin C X w M E K KP w' e) a2.defers (.panicking [{ v, recovered := false }]) w2
   rw [hms2]
   refine leaves_marks (by simp) hmk2 fun w3 hsh => ?_
   obtain ⟨q1, q2, q3⟩ := shut_sim hS2 hlow1 hf2 hmk2 hsh
   refine hD (.panicking [{ v, recovered := false }]) (.panicking [{ v, recovered := true }]) X2 w3 M2 E2 d v (by simp) hx2 q1 q2 (hrd.mono q3) (hmark X2 w2 w3 M2 E2 ms2 hx2 hf2 hmk2 hsh) (fun c₀ cs hm => .inl ⟨_, by simp [recoverD, hm], rfl⟩) rfl hp3' _ ?_
   exact hfix _ rfl
end
end Go.Am
namespace Go.Am
open Go.Sort
theorem flat_i64 : ∀ xs : List Int, flat (xs.map (DV.int .i64)) = xs.map (DV.int .i64)
 | [] => rfl
 | x :: xs => by
  have := flat_i64 xs
  simp only [flat] at this ⊢
  simp only [List.map_cons, List.flatMap_cons, this]
  rfl
theorem repL_i64 {w : World} {O : Nat → Prop} : ∀ xs : List Int, RepL w O (xs.map (Value.int .i64)) (xs.map (DV.int .i64))
 | [] => .nil
 | x :: xs => .cons (.int _ _) (repL_i64 xs)
theorem repL_i64_inv {w : World} {O : Nat → Prop} : ∀ {vs : List Value} {xs : List Int}, RepL w O vs (xs.map (DV.int .i64)) → vs = xs.map (Value.int .i64)
 | _, [], .nil => rfl
 | _, x :: xs, .cons h t => by
  cases h
  rw [repL_i64_inv t]
  rfl
section
variable {C : Ctx}
theorem sort_sc {ρ : Go.Shelf.Ren} (Ly : Go.Proofs.Lays.n189 C.P ρ) {k ver : Nat} {zs : List Int} {bs : List (Option (List PV))} {fz : List Nat} {ar : List (Option Arr)} {K : PV → Mem → Prop} {KP : DV → Mem → Prop}
  (h : ar[k]? = some (some ⟨1, zs.map (DV.int .i64), ver, 1⟩)) (hz : zs ≠ []) (hl : zs.length < 4611686018427387904)
  (hK : K (.d (.tup [])) ⟨bs, fz, ar.set k (some ⟨1, (zs.mergeSort fun x y => decide (x ≤ y)).map (DV.int .i64), ver, 1⟩)⟩) : SC C (ρ.f 189) [.tsl k ver 0] ⟨bs, fz, ar⟩ K KP := by
 intro X w E vals hS hA
 cases hA with | cons hr ht =>
 cases ht
 cases hr with | tsl hlt hh =>
 obtain ⟨_, hv⟩ := hh _ h
 obtain ⟨loc, hloc, hT⟩ := hv rfl
 obtain ⟨s1, s2, s3, s4⟩ := hS.arr k _ h
 obtain ⟨q, hq⟩ := s3 rfl
 rw [hq] at hloc
 cases hloc
 obtain ⟨blk, o, e⟩ := q
 obtain ⟨hX, vs, T, g2, g3, g4, g5⟩ := s4 blk o e hq
 obtain ⟨_, hT⟩ := hT
 rcases hT with ⟨cap', he, _, _⟩ | ⟨h0, _⟩
 case inr => exact absurd (by simpa using h0) hz
 cases he
 simp only [List.length_map, Nat.mul_one] at g3 g5
 rw [flat_i64] at g5
 have hcells := repL_i64_inv g5
 have hH : Holds (Value.int .i64) w blk o zs.toArray := by
  intro j hj
  have hj' : j < zs.length := by simpa using hj
  have hv : vs[o + j]? = some (.int .i64 zs[j]) := by
   have := congrArg (fun l => l[j]?) hcells
   simp only [List.getElem?_take, hj', if_true, List.getElem?_drop, Array.getElem?_toList, List.getElem?_map, List.getElem?_eq_getElem hj', Option.map_some] at this
   exact this
  refine ⟨?_, ?_⟩
  ·rw [cell_of_row w blk (o + j) vs T.ty T.fr g2, hv]
   simp [hj']
  ·have hlt : o + j < vs.size := (Array.getElem?_eq_some_iff.1 hv).1
   obtain ⟨ty, ⟨f1, f2⟩, hok⟩ := T
   simp only at hok g2
   simp [World.frozen?, g2]
   intro hh
   omega
 have hblk : blk < w.heap.size := getElem?_lt g2
 simp only [List.length_map, Nat.sub_zero, Nat.zero_mul, Nat.add_zero]
 refine (Go.Proofs.Any.slices_Sort_int Ly blk o _ zs w hH hblk hl).mono ?_
 rintro en w' ⟨rfl, n, os, rfl⟩
 generalize hss : (zs.mergeSort fun x y => decide (x ≤ y)) = ss at *
 have hsl : ss.length = zs.length := by rw [← hss, List.length_mergeSort]
 have hw : Wrote blk w (putRow (Value.int .i64) (Go.Sort.ahead w n) blk o ss.toArray) (putCells (Value.int .i64) o ss.toArray vs).toList T.ty T.fr :=
  {os := rfl
   tape := rfl
   output := rfl
   size := by simp [putRow, mapBlock, Go.Sort.ahead]
   at_ := by simp [putRow, mapBlock, Go.Sort.ahead, Array.getElem?_modify, g2, onCells]
   keep := fun b hb => by simp [putRow, mapBlock, Go.Sort.ahead, Array.getElem?_modify, Ne.symm hb] }
 have hrow : ((putCells (Value.int .i64) o ss.toArray vs).toList.drop o).take zs.length = ss.map (Value.int .i64) := by
  apply List.ext_getElem?
  intro j
  rw [List.getElem?_take, List.getElem?_drop, Array.getElem?_toList, List.getElem?_map]
  by_cases hj : j < zs.length
  ·rw [if_pos hj]
   have hj' : j < ss.length := by omega
   have hv : o + j < vs.size := by omega
   simp [putCells, Array.getElem?_mapIdx, hv, hj']
  ·rw [if_neg hj, List.getElem?_eq_none (by omega)]; rfl
 have hsv := sim_storeR (el := ss.map (DV.int .i64)) hS h rfl hq g2 (by simp [hsl]) (by intro x hx; obtain ⟨y, _, rfl⟩ := List.mem_map.1 hx; rfl) (by simp [putCells]) (by
  simp only [List.length_map, Nat.mul_one]
  rw [flat_i64, hrow]
  exact repL_i64 ss) hw
 have hla : Later (putRow (Value.int .i64) (Go.Sort.ahead w n) blk o ss.toArray) (grow (putRow (Value.int .i64) (Go.Sort.ahead w n) blk o ss.toArray) os) :=
  ⟨rfl, rfl, rfl, by simp [grow], fun b hb => by simp only [grow]; rw [Array.getElem?_append_left hb]⟩
 exact ⟨_, _, E, hK, hsv.1.later hla, hsv.2.trans (hla.from _ _), .d (.tup .nil)⟩
end
end Go.Am
namespace Go.Am
section
variable {C : Ctx}
theorem away_none' {X : Nat → Prop} : ∀ b, away X noMem ⟨[], []⟩ b → X b := by
 rintro b (h | ⟨i, cs, h, _⟩ | ⟨k, A, o, e, h, _⟩)
 ·exact h
 ·simp [noMem] at h
 ·simp [noMem] at h
theorem sc_any {f : FuncId} {ds : List DV} {Kr : DV → Prop} {Kp : DV → Prop} (h : SC C f (ds.map .d) noMem (fun v M' => ∃ x, datum M' v = some x ∧ Kr x.strip) (fun d _ => Kp d)) {M : Mem} {K : PV → Mem → Prop} {KP : DV → Mem → Prop}
  (hK : ∀ x, Kr x → K (.d x) M) (hP : ∀ d, Kp d → KP d M) : SC C f (ds.map .d) M K KP := by
 intro X w E vals hS hA
 have hlow : ∀ b, C.low b → away X M E b := fun b hb => .inl (hS.lowX b hb)
 have hlt : ∀ b, away X M E b → b < w.heap.size := fun b hb => hS.away_lt hb
 have hA' : RepP w (away (away X M E) noMem ⟨[], []⟩) noMem ⟨[], []⟩ vals (ds.map .d) := by
  refine RepP.ofD ?_
  have : RepL w (away X M E) vals ds := RepP.toL hA
  exact this.weaken away_none'
 refine (h (away X M E) w ⟨[], []⟩ vals (sim_none hS.glob hlow hlt) hA').mono fun e w' he => ?_
 cases e with
 | returned v =>
  obtain ⟨p, M', E', ⟨x, hd, hx⟩, h2, h3, h4⟩ := he
  have hl := h3.laterOf
  refine ⟨.d x.strip, M, E, hK _ hx, hS.later hl, hl.from M E, .d ?_⟩
  exact ((datum_frz (ps := [p]) h2 h4 hd (by simp)).weaken fun b hb => .inl hb).strip
 | panicked c =>
  obtain ⟨v, d, M', E', hc, hp, h2, h3, h4⟩ := he
  have hl := h3.laterOf
  exact ⟨v, d, M, E, hc, hP _ hp, hS.later hl, hl.from M E, h4.weaken fun b hb => .inl hb⟩
 | outgrown => exact he.elim
theorem pure_of_calls {f : FuncId} {ds : List DV} {r : DV}
  (h : ∀ (X : Nat → Prop) (w : World) (vals : List Value), C.G w → (∀ b, X b → b < w.heap.size) → RepL w X vals ds → Calls C.P f vals.toArray w fun e w' => ∃ v, e = .returned v ∧ Later w w' ∧ RepD w' X v r) : Pure C f ds (.d r) [] := by
 intro X w vals hG hl hx hr
 refine (h X w vals hG hx hr).mono fun e w' he => ?_
 obtain ⟨v, rfl, hla, hv⟩ := he
 have hS : Sim C X w noMem ⟨[], []⟩ := sim_none hG hl hx
 exact ⟨v, ⟨[], []⟩, rfl, hS.later hla, hla.from _ _, .d (hv.weaken away_none')⟩
end
end Go.Am
