/-
  Part 8 of the proof of a law of plates: an abstract machine over the model, contracts of functions, plain laws.
  Conditions: none.
-/
import Derived.Test.YticjmjdcggomgaaGreatDoorM07
set_option linter.all false
namespace Go.Am
structure Lo where
 n : Nat
 ds : List Deferred
 ex : Bool
 fx : Option (Nat × Value)
section
variable {C : Ctx} {X : Nat → Prop} {w : World} {M : Mem} {E : Emb} {K : PV → Mem → Prop} {KP : DV → Mem → Prop} {lo : Lo} {ro : Option Nat}
theorem outc_of_runOp {ρ : Operand → Value} (hρ : ∀ f, ρ (.func f) = .func (.func f) #[] #[]) (hρc : ∀ v, ρ (.const v) = v) {o : Oper} {op : Op} {p : POp} (ho : o.op = op) {args : List PV} (hS : Sim C X w M E) (hA : RepP w (away X M E) M E ((opsOf o.op).map ρ) args)
  (hok : okKind C.P op p = true) {base : Nat} (h : runOp C base p args M K KP) : Outc C X w M E K KP ((execOp ρ o).run C.P w) := by
 have hok' := hok
 unfold okKind at hok
 split at hok
 ·exact case_mov (.inl ho) hS hA h
 ·exact case_mov (.inr ho) hS hA h
 ·exact case_asgG (.inl ho) hS hA h
 ·exact case_asgG (.inr ho) hS hA h
 ·exact case_pick ho hS hA h
 ·exact case_alloc ho hS hok' h
 ·exact case_box ho hS hA h
 ·exact case_build ho hS hA hok' h
 ·exact case_mkSl ho hS hA hok' h
 ·exact case_load ho hS hA hok h
 ·exact case_loadP ho hS hA hok h
 ·exact case_store ho hS hA hok' h
 ·exact case_nilck ho hS hA h
 ·exact case_bin ho hS hA hok' h
 ·exact case_binA ho hS hA hok' h
 ·exact case_binB ho hS hA hok' h
 ·exact case_isNil ho hρc hS hA hok' h
 ·exact case_un ho hS hA hok' h
 ·exact case_conv ho hS hA hok' h
 ·exact case_mkI ho hS hA hok' h
 ·exact case_mkF ho hS hA hok' h
 ·exact case_slcS ho hS hA hok' h
 ·exact case_slcD ho hS hA hok' h
 ·exact runFld_sound ho hS hA hok' h
 ·exact case_fldv ho hS hA hok' h
 ·exact case_idxA ho hS hA hok' h
 ·exact case_idxS ho hS hA hok' h
 ·exact case_idxV ho hS hA hok' h
 ·exact case_ext ho hS hA hok' h
 ·simp only [Bool.and_eq_true, beq_iff_eq] at hok
  obtain ⟨rfl, hok⟩ := hok
  exact case_call ho (hρ _) hA hok h
 ·simp only [Bool.and_eq_true, beq_iff_eq] at hok
  obtain ⟨rfl, hok⟩ := hok
  exact case_call ho (hρ _) hA hok (sc_of_runPure h)
 ·simp only [Bool.and_eq_true, beq_iff_eq] at hok
  obtain ⟨rfl, hok⟩ := hok
  exact case_call ho (hρ _) hA hok (sc_of_runPure (runPure_of_F h))
 ·simp only [Bool.and_eq_true, beq_iff_eq] at hok
  obtain ⟨rfl, hok⟩ := hok
  exact case_call ho (hρ _) hA hok (sc_of_runPure (runPure_of_D h))
 ·exact case_callV ho hS hA h
 ·exact case_app ho hS hA hok' h
 ·exact case_appF ho hS hA hok' h
 ·exact case_len ho hS hA hok' h
 ·exact case_lenS ho hS hA hok' h
 ·exact case_lenC ho hS hok' h
 ·subst hok
  exact case_minmax ho (.inl ⟨rfl, rfl⟩) hS (by simpa [ho, opsOf] using hA) h
 ·simp only [Bool.not_eq_true'] at hok
  subst hok
  exact case_minmax ho (.inr ⟨rfl, rfl⟩) hS (by simpa [ho, opsOf] using hA) h
 ·exact case_panic ho hS hA h
 ·exact case_mlook ho hS hA hok' h
 ·exact case_mkRow ho hS hA hok' h
 ·exact case_s2b ho hS hA hok' h
 ·exact case_b2s ho hS hA hok' h
 ·exact case_tas ho hS hA hok' h
 ·exact case_slcL ho hS hA hok' h
 ·exact case_slcP ho hS hA hok' h
 ·exact case_copy ho hS hA hok' h
 ·exact case_clr ho hS hA hok' h
 ·exact case_isNilI ho hρc hS hA hok' h
 ·exact case_rngS ho hS hA hok' h
 ·exact case_nxtS ho hS hA hok' h
 ·exact case_inv ho hA hok' h
 ·exact case_shf ho hS hA hok' h
 ·exact case_mkMap ho hS h
 ·exact case_mset ho hS hA hok' h
 ·exact case_mkSlR ho hS hA hok' h
 ·cases hok
def okOpd : Operand → Opd → Bool
 | .tmp m, .t k => m == k
 | .const v, .c x => constRep x v
 | .func f, .c (.func (.func f') [] []) => f == f'
 | _, _ => false
def okOpds : List Operand → List Opd → Bool
 | [], [] => true
 | x :: xs, y :: ys => okOpd x y && okOpds xs ys
 | _, _ => false
def okM (n : Nat) (X : Nat → Prop) (ds : List Deferred) (w : World) : Prop :=
 (∀ d ∈ ds, ∃ D, d.target = .collected D ∧ n ≤ D ∧ X D ∧ w.heap[D]? = some (.deferred (some []))) ∧ ds.Pairwise (fun d d' => d.target ≠ d'.target)
def okD (lo : Lo) (X : Nat → Prop) (ds : List Deferred) (w : World) : Prop := ∃ ms, ds = ms ++ lo.ds ∧ okM lo.n X ms w ∧ (lo.ex = true → ms = [])
theorem okM_nil {n : Nat} {X : Nat → Prop} {w : World} : okM n X [] w := ⟨fun _ h => by simp at h, .nil⟩
theorem okD_nil {n : Nat} {ds : List Deferred} {ex : Bool} {fx : Option (Nat × Value)} {X : Nat → Prop} {w : World} : okD ⟨n, ds, ex, fx⟩ X ds w := ⟨[], rfl, okM_nil, fun _ => rfl⟩
theorem Sim.owned_notX (h : Sim C X w M E) {b : Nat} (ho : owned M E b) : ¬ X b := by
 rcases ho with ⟨i, cs, h1, _, h2⟩ | ⟨k, A, o, e, h1, _, h2⟩
 ·obtain ⟨blk, q1, q2, _⟩ := h.box i cs h1
  rw [h2] at q1; cases q1; exact q2
 ·exact ((h.arr k A h1).2.2.2 _ _ _ h2).1
theorem okM.keep {n : Nat} {ds : List Deferred} {w' : World} (h : okM n X ds w) (hk : ∀ b o, X b → w.heap[b]? = some o → w'.heap[b]? = some o) : okM n X ds w' :=
 ⟨fun d hd => by obtain ⟨D, h1, h2, h3, h4⟩ := h.1 d hd; exact ⟨D, h1, h2, h3, hk D _ h3 h4⟩, h.2⟩
theorem okD.keep {lo : Lo} {ds : List Deferred} {w' : World} (h : okD lo X ds w) (hk : ∀ b o, X b → w.heap[b]? = some o → w'.heap[b]? = some o) : okD lo X ds w' := by
 obtain ⟨ms, h1, h2, h3⟩ := h
 exact ⟨ms, h1, h2.keep hk, h3⟩
theorem okD.from {lo : Lo} {ds : List Deferred} {w' : World} {M' : Mem} {E' : Emb} (h : okD lo X ds w) (hS : Sim C X w M E) (hf : From w M E w' M' E') : okD lo X ds w' :=
 h.keep fun b o hx ho => hf.keep b o (fun hb => hS.owned_notX hb hx) ho
def RF (ro : Option Nat) : Fence := { Fence.wide with round := ro }
theorem callsIn_RF {ro : Option Nat} {n : Nat} {P : Program} {f : FuncId} {args : Array Value} {w : World} {R : Ending → World → Prop} (h : Calls P f args w R) : CallsIn (RF ro) n P f args w R := (callsIn_wide (n := n)).2 h
structure InS (C : Ctx) (X : Nat → Prop) (lo : Lo) (n : Nat) (s : St) (a : Act) (w : World) (E : Emb) : Prop where
 sim : Sim C X w s.mem E
 env : ∀ t, Rep w (away X s.mem E) s.mem E (a.eval (.tmp t)) (look s.env t)
 size : a.tmps.size = n
 defers : okD lo X a.defers w
 fix : ∀ q, lo.fx = some q → a.eval (.tmp q.1) = q.2
theorem val_rep {n : Nat} {s : St} {a : Act} (h : InS C X lo n s a w E) {x : Operand} {y : Opd} (hok : okOpd x y = true) : Rep w (away X s.mem E) s.mem E (a.eval x) (s.val y) := by
 unfold okOpd at hok
 split at hok
 ·simp only [beq_iff_eq] at hok; subst hok; exact h.env _
 ·exact .d (constRep_rep hok)
 ·simp only [beq_iff_eq] at hok
  subst hok
  exact .d (.func .nil .nil)
 ·cases hok
theorem vals_rep {n : Nat} {s : St} {a : Act} (h : InS C X lo n s a w E) : ∀ {xs : List Operand} {ys : List Opd}, okOpds xs ys = true → RepP w (away X s.mem E) s.mem E (xs.map a.eval) (ys.map s.val)
 | [], [], _ => .nil
 | x :: xs, y :: ys, hok => by
  simp only [okOpds, Bool.and_eq_true] at hok
  exact .cons (val_rep h hok.1) (vals_rep h hok.2)
 | [], _ :: _, hok => by simp [okOpds] at hok
 | _ :: _, [], hok => by simp [okOpds] at hok
theorem eval_put_eq {a : Act} {d t : Nat} {v : Value} : (a.put (some d) v).eval (.tmp t) = if t = d ∧ d < a.tmps.size then v else a.eval (.tmp t) := by
 simp only [Act.put, Act.eval, Array.getD_eq_getD_getElem?, Array.getElem?_setIfInBounds]
 by_cases h : d = t
 ·subst h
  by_cases h2 : d < a.tmps.size
  ·simp [h2]
  ·simp [h2]
 ·have : ¬ t = d := fun e => h e.symm
  simp [h, this]
theorem InS.put {n : Nat} {s : St} {a : Act} {M' : Mem} {w' : World} {E' : Emb} (h : InS C X lo n s a w E) (hS : Sim C X w' M' E') (hf : From w s.mem E w' M' E') {dst : Option Nat} (hfx : ∀ q, lo.fx = some q → dst ≠ some q.1) (hd : dst.all (· < n) = true) {v : Value} {p : PV}
  (hr : dst.isSome = true → Rep w' (away X M' E') M' E' v p) : InS C X lo n ⟨put s.env dst p, M'⟩ (a.put dst v) w' E' := {
 sim := hS
 env := fun t => by
  cases dst with
  | none => simpa [Am.put, Act.put] using (h.env t).from hf
  | some d =>
   simp only [Option.all_some, decide_eq_true_eq] at hd
   rw [eval_put_eq]
   simp only [Am.put, look]
   by_cases hdt : t = d
   ·subst hdt
    simp only [beq_self_eq_true, cond_true, true_and, h.size, hd, if_true]
    exact hr rfl
   ·have : (d == t) = false := by simp; exact fun e => hdt e.symm
    simp only [this, cond_false, hdt, false_and, if_false]
    exact (h.env t).from hf
 size := by cases dst <;> simp [Act.put, h.size]
 defers := by
  have : (a.put dst v).defers = a.defers := by cases dst <;> rfl
  rw [this]; exact h.defers.from h.sim hf
 fix := fun q hq => by
  cases dst with
  | none => exact h.fix q hq
  | some d =>
   rw [eval_put_eq, if_neg fun hh => hfx q hq (by rw [← hh.1])]
   exact h.fix q hq }
theorem InS.later {n : Nat} {s : St} {a : Act} {w' : World} (h : InS C X lo n s a w E) (hl : Later w w') : InS C X lo n s a w' E := {
 sim := h.sim.later hl
 env := fun t => (h.env t).from (hl.from s.mem E)
 size := h.size
 defers := h.defers.from h.sim (hl.from s.mem E)
 fix := h.fix }
def Post (C : Ctx) (X : Nat → Prop) (n : Nat) (w₀ : World) (M₀ : Mem) (E₀ : Emb) (ds₀ : List Deferred) (ex : Bool) (fx : Option (Nat × Value)) (Q : Ex → St → Prop) : Exit → Act → World → Prop
 | .normal, a, w => ∃ (X' : Nat → Prop) (s : St) (E : Emb), (∀ b, X b → X' b) ∧ Q .normal s ∧ InS C X' ⟨w₀.heap.size, ds₀, ex, fx⟩ n s a w E ∧ From w₀ M₀ E₀ w s.mem E
 | .exit id, a, w => ∃ (X' : Nat → Prop) (s : St) (E : Emb), (∀ b, X b → X' b) ∧ Q (.exit id) s ∧ InS C X' ⟨w₀.heap.size, ds₀, ex, fx⟩ n s a w E ∧ From w₀ M₀ E₀ w s.mem E
 | .ret, a, w => ∃ (X' : Nat → Prop) (s : St) (E : Emb), (∀ b, X b → X' b) ∧ Q .ret s ∧ InS C X' ⟨w₀.heap.size, ds₀, ex, fx⟩ n s a w E ∧ From w₀ M₀ E₀ w s.mem E
 | .panic chain, a, w => ∃ (X' : Nat → Prop) (v : Value) (d : DV) (M : Mem) (E : Emb), (∀ b, X b → X' b) ∧ chain = [{ v, recovered := false }] ∧ Q (.panic d) ⟨[], M⟩ ∧ Sim C X' w M E ∧ From w₀ M₀ E₀ w M E ∧ RepD w (away X' M E) v d ∧ okD ⟨w₀.heap.size, ds₀, ex, fx⟩ X' a.defers w ∧ (∀ q, fx = some q → a.eval (.tmp q.1) = q.2)
 | _, _, _ => False
theorem Post.up {X' : Nat → Prop} {n : Nat} {w₀ : World} {M₀ : Mem} {E₀ : Emb} {ds₀ : List Deferred} {ex : Bool} {fx : Option (Nat × Value)} {Q : Ex → St → Prop} (hx : ∀ b, X b → X' b) {e : Exit} {a : Act} (h : Post C X' n w₀ M₀ E₀ ds₀ ex fx Q e a w) : Post C X n w₀ M₀ E₀ ds₀ ex fx Q e a w := by
 cases e with
 | normal => obtain ⟨X2, s, E, h1, h2⟩ := h; exact ⟨X2, s, E, fun b hb => h1 b (hx b hb), h2⟩
 | exit id => obtain ⟨X2, s, E, h1, h2⟩ := h; exact ⟨X2, s, E, fun b hb => h1 b (hx b hb), h2⟩
 | ret => obtain ⟨X2, s, E, h1, h2⟩ := h; exact ⟨X2, s, E, fun b hb => h1 b (hx b hb), h2⟩
 | panic c => obtain ⟨X2, v, d, M, E, h1, h2⟩ := h; exact ⟨X2, v, d, M, E, fun b hb => h1 b (hx b hb), h2⟩
 | goto l => exact h.elim
 | outgrown => exact h.elim
theorem okKind_defer {P : Program} {op : Op} {p : POp} (h : okKind P op p = true) : ∀ c, op ≠ .defer c := by
 rintro c rfl
 simp [okKind] at h
def okGuard (ops : Array Oper) (g : Option (Nat × Bool)) (g' : Option (Nat × Bool)) : Bool :=
 match g, g' with
 | none, none => true
 | some (j, want), some (t, want') => want == want' && decide ((ops[j]?).bind (·.dst) = some t)
 | _, _ => false
def okPO (P : Program) (n : Nat) (ops : Array Oper) (o : Oper) (p : PO) : Bool :=
 okKind P o.op p.op && okOpds (opsOf o.op) p.args && decide (o.dst = p.dst) && p.dst.all (· < n) && okGuard ops o.guard p.g
theorem op_sound {n : Nat} {ops : Array Oper} (hfx : ∀ q, lo.fx = some q → ∀ o ∈ ops, o.dst ≠ some q.1) {i : Nat} {o : Oper} {p : PO} (hi : ops[i]? = some o) (hok : okPO C.P n ops o p = true) {s : St} {a : Act} (h : InS C X lo n s a w E) {base : Nat} {K : St → Prop} {KP : DV → Mem → Prop}
  (hr : runPO C base p K KP s) {next : Act → World → Prop} {Q : Exit → Act → World → Prop}
  (hK : ∀ s' a' w' E', K s' → InS C X lo n s' a' w' E' → From w s.mem E w' s'.mem E' → next a' w')
  (hKP : ∀ d M' a' w' E' v, KP d M' → Sim C X w' M' E' → From w s.mem E w' M' E' → RepD w' (away X M' E') v d → okD lo X a'.defers w' → (∀ q, lo.fx = some q → a'.eval (.tmp q.1) = q.2) → Q (.panic [{ v, recovered := false }]) a' w') :
  wpOpIn (RF ro) 0 C.P ops Q i next a w := by
 simp only [okPO, Bool.and_eq_true, decide_eq_true_eq] at hok
 obtain ⟨⟨⟨⟨hk, ha⟩, hd⟩, hn⟩, hg⟩ := hok
 have hA := vals_rep h ha
 have hfo : ∀ q, lo.fx = some q → p.dst ≠ some q.1 := fun q hq => by rw [← hd]; exact hfx q hq o (Array.mem_of_getElem? hi)
 have main : runOp C base p.op (p.args.map s.val) s.mem (fun v M => K ⟨put s.env p.dst v, M⟩) KP → o.wpIn (RF ro) 0 C.P a w next Q := by
  intro hop
  have := outc_of_runOp (ρ := a.eval) (fun f => rfl) (fun v => rfl) (o := o) rfl h.sim hA hk hop
  unfold Oper.wpIn
  refine ⟨fun _ _ => trivial, ?_⟩
  rw [Oper.semAt_eq _ _ _ (okKind_defer hk)]
  generalize (execOp a.eval o).run C.P w = r at this
  cases r with
  | ok nx w' =>
   cases nx with
   | value v =>
    obtain ⟨pv, M', E', h1, h2, h3, h4⟩ := this
    simp only [Oper.uponIn_value]
    rw [hd]
    exact hK _ _ _ _ h1 (h.put h2 h3 hfo hn (fun _ => h4)) h3
   | skip =>
    obtain ⟨M', E', h1, h2, h3⟩ := this
    simp only [Oper.uponIn_skip]
    rw [hd]
    exact hK _ _ _ _ h1 (h.put h2 h3 hfo hn (fun _ => .dead)) h3
   | enter f args =>
    obtain ⟨rfl, ps, h1, h2⟩ := this
    simp only [Oper.uponIn_enter]
    have := h1 X w' E args.toList h.sim h2
    refine ⟨fun h => by simp [RF, Fence.wide] at h, CallsIn.mono (callsIn_RF (ro := ro) (by simpa using this)) fun e w'' he => ?_⟩
    cases e with
    | returned v =>
     obtain ⟨pv, M', E', g1, g2, g3, g4⟩ := he
     show next (a.put o.dst v) w''
     rw [hd]
     exact hK _ _ _ _ g1 (h.put g2 g3 hfo hn (fun _ => g4)) g3
    | panicked chain =>
     obtain ⟨v, d, M', E', rfl, g1, g2, g3, g4⟩ := he
     exact hKP _ _ _ _ _ _ g1 g2 g3 g4 (h.defers.from h.sim g3) h.fix
    | outgrown => exact he.elim
   | round l f tmps as body =>
    obtain ⟨rfl, h1⟩ := this
    simp only [Oper.uponIn_round]
    refine ⟨fun h => by simp [RF, Fence.wide] at h, RoundIn.mono (F := RF ro) (n := 0 - 1) h1 fun e w'' he => ?_⟩
    cases e with
    | returned v =>
     obtain ⟨pv, M', E', g1, g2, g3, g4⟩ := he
     show next (a.put o.dst v) w''
     rw [hd]
     exact hK _ _ _ _ g1 (h.put g2 g3 hfo hn (fun _ => g4)) g3
    | panicked chain =>
     obtain ⟨v, d, M', E', rfl, g1, g2, g3, g4⟩ := he
     exact hKP _ _ _ _ _ _ g1 g2 g3 g4 (h.defers.from h.sim g3) h.fix
    | outgrown => exact he.elim
   | _ => exact this.elim
  | halt x w' =>
   cases x with
   | panic v =>
    obtain ⟨d, M', E', g1, g2, g3, g4⟩ := this
    exact hKP _ _ _ _ _ _ g1 g2 g3 g4 (h.defers.from h.sim g3) h.fix
   | _ => exact this.elim
 unfold wpOpIn
 simp only [hi]
 unfold runPO at hr
 unfold okGuard at hg
 split at hg
 ·rename_i hog hpg
  simp only [hpg] at hr
  have hw : Region.wanted o (yielded ops a.tmps) = true := by simp [Region.wanted, hog]
  simp only [hw, if_true]
  exact main hr.2
 ·rename_i j want t want' hog hpg
  simp only [Bool.and_eq_true, beq_iff_eq, decide_eq_true_eq] at hg
  obtain ⟨rfl, hj⟩ := hg
  simp only [hpg] at hr
  split at hr
  ·rename_i x hx
   obtain ⟨r1, r2⟩ := hr
   have ht := h.env t
   rw [hx] at ht
   have hb := ht.toD.bool_inv
   have hy : yielded ops a.tmps j = some x := by
    simp only [yielded, hj, Option.bind_some]
    simp only [Act.eval, Array.getD_eq_getD_getElem?] at hb
    cases hq : a.tmps[t]? with
    | none => rw [hq] at hb; simp [undef] at hb
    | some u => rw [hq] at hb; simp at hb; simp [hb]
   have hw : Region.wanted o (yielded ops a.tmps) = (x == want) := by simp [Region.wanted, hog, hy]
   rw [hw]
   by_cases hxw : x = want
   ·subst hxw
    simp only [beq_self_eq_true, if_true]
    exact main (r1 rfl).2
   ·have : (x == want) = false := by simp [hxw]
    simp only [this, Bool.false_eq_true, if_false]
    rw [hd]
    refine ⟨fun _ _ => trivial, ?_⟩
    exact hK _ _ _ _ (r2 (by cases x <;> cases want <;> simp_all)) (h.put h.sim (.refl _ _ _) hfo hn (fun _ => .d (.tup .nil))) (.refl _ _ _)
  ·rename_i hx
   have ht := h.env t
   rw [hx] at ht
   have hy : yielded ops a.tmps j = none := by
    simp only [yielded, hj, Option.bind_some]
    have hb := ht.toD
    simp only [Act.eval, Array.getD_eq_getD_getElem?] at hb
    cases hq : a.tmps[t]? with
    | none => rfl
    | some u =>
     rw [hq] at hb
     simp only [Option.getD_some] at hb
     cases hb
     rfl
   have hw : Region.wanted o (yielded ops a.tmps) = false := by simp [Region.wanted, hog, hy]
   simp only [hw, Bool.false_eq_true, if_false]
   rw [hd]
   refine ⟨fun _ _ => trivial, ?_⟩
   exact hK _ _ _ _ hr (h.put h.sim (.refl _ _ _) hfo hn (fun _ => .d (.tup .nil))) (.refl _ _ _)
  ·exact hr.elim
 ·cases hg
theorem ops_sound {n : Nat} {ops : Array Oper} (hfx : ∀ q, lo.fx = some q → ∀ o ∈ ops, o.dst ≠ some q.1) {base : Nat} {K : St → Prop} {KP : DV → Mem → Prop} {Q : Exit → Act → World → Prop} {w₀ : World} {M₀ : Mem} {E₀ : Emb}
  (hK : ∀ s' a' w' E', K s' → InS C X lo n s' a' w' E' → From w₀ M₀ E₀ w' s'.mem E' → Q .normal a' w')
  (hKP : ∀ d M' a' w' E' v, KP d M' → Sim C X w' M' E' → From w₀ M₀ E₀ w' M' E' → RepD w' (away X M' E') v d → okD lo X a'.defers w' → (∀ q, lo.fx = some q → a'.eval (.tmp q.1) = q.2) → Q (.panic [{ v, recovered := false }]) a' w') :
  ∀ (ps : List PO) (k : Nat), (∀ (j : Nat) (p : PO), ps[j]? = some p → ∃ o, ops[k + j]? = some o ∧ okPO C.P n ops o p = true) → ∀ (s : St) (a : Act) (w : World) (E : Emb), InS C X lo n s a w E → From w₀ M₀ E₀ w s.mem E →
   runPOs C base ps K KP s → wpOpsIn (RF ro) 0 C.P ops Q (List.range' k ps.length) a w
 | [], _, _, s, a, w, E, h, hf, hr => by
  simp only [List.length_nil, List.range'_zero, wpOpsIn]
  exact hK s a w E hr h hf
 | p :: ps, k, hok, s, a, w, E, h, hf, hr => by
  simp only [List.length_cons, List.range'_succ]
  rw [wpOpsIn_cons]
  obtain ⟨o, ho, hp⟩ := hok 0 p rfl
  refine op_sound hfx ho hp h hr (fun s' a' w' E' hs' hi' hf' => ?_) (fun d M' a' w' E' v h1 h2 h3 h4 h5 => hKP d M' a' w' E' v h1 h2 (hf.trans h3) h4 h5)
  refine ops_sound hfx hK hKP ps (k + 1) (fun j q hq => ?_) s' a' w' E' hi' (hf.trans hf') hs'
  obtain ⟨o', h1, h2⟩ := hok (j + 1) q (by simpa using hq)
  exact ⟨o', by rw [show k + 1 + j = k + (j + 1) by omega]; exact h1, h2⟩
def okPOs (P : Program) (n : Nat) (ops : Array Oper) : List Oper → List PO → Bool
 | [], [] => true
 | o :: os, p :: ps => okPO P n ops o p && okPOs P n ops os ps
 | _, _ => false
theorem okPOs_get {P : Program} {n : Nat} {ops : Array Oper} : ∀ {os : List Oper} {ps : List PO}, okPOs P n ops os ps = true → os.length = ps.length ∧ ∀ (j : Nat) (p : PO), ps[j]? = some p → ∃ o, os[j]? = some o ∧ okPO P n ops o p = true
 | [], [], _ => ⟨rfl, fun j p h => by simp at h⟩
 | o :: os, p :: ps, h => by
  simp only [okPOs, Bool.and_eq_true] at h
  obtain ⟨h1, h2⟩ := okPOs_get h.2
  refine ⟨by simp [h1], fun j q hq => ?_⟩
  cases j with
  | zero => simp at hq; subst hq; exact ⟨o, rfl, h.1⟩
  | succ j => simpa using h2 j q (by simpa using hq)
 | [], _ :: _, h => by simp [okPOs] at h
 | _ :: _, [], h => by simp [okPOs] at h
theorem wpOps_region {n : Nat} {ops : Array Oper} (hfx : ∀ q, lo.fx = some q → ∀ o ∈ ops, o.dst ≠ some q.1) {ps : List PO} (hok : okPOs C.P n ops ops.toList ps = true) {base : Nat} {K : St → Prop} {KP : DV → Mem → Prop} {Q : Exit → Act → World → Prop}
  {s : St} {a : Act} {w₀ : World} {M₀ : Mem} {E₀ : Emb} (h : InS C X lo n s a w E) (hf : From w₀ M₀ E₀ w s.mem E) (hr : runPOs C base ps K KP s)
  (hK : ∀ s' a' w' E', K s' → InS C X lo n s' a' w' E' → From w₀ M₀ E₀ w' s'.mem E' → Q .normal a' w')
  (hKP : ∀ d M' a' w' E' v, KP d M' → Sim C X w' M' E' → From w₀ M₀ E₀ w' M' E' → RepD w' (away X M' E') v d → okD lo X a'.defers w' → (∀ q, lo.fx = some q → a'.eval (.tmp q.1) = q.2) → Q (.panic [{ v, recovered := false }]) a' w') :
  wpOpsIn (RF ro) 0 C.P ops Q (List.range ops.size) a w := by
 obtain ⟨h1, h2⟩ := okPOs_get hok
 have := ops_sound (ro := ro) (C := C) (X := X) hfx hK hKP ps 0 (fun j p hp => by
  obtain ⟨o, g1, g2⟩ := h2 j p hp
  exact ⟨o, by simpa using g1, g2⟩) s a w E h hf hr
 rw [List.range_eq_range', show ops.size = ps.length by simpa using h1]
 exact this
end
end Go.Am
namespace Go.Am
section
variable {C : Ctx} {X : Nat → Prop} {w : World} {M : Mem} {E : Emb} {lo : Lo}
theorem take_get {α : Type} {l : List α} {n i : Nat} {x : α} (h : (l.take n)[i]? = some x) : i < n ∧ l[i]? = some x := by
 rw [List.getElem?_take] at h
 split at h
 ·rename_i hi; exact ⟨hi, h⟩
 ·cases h
theorem take_get' {α : Type} {l : List α} {n i : Nat} (h : i < n) : (l.take n)[i]? = l[i]? := by
 rw [List.getElem?_take, if_pos h]
theorem owned_take {n m : Nat} {b : Nat} (h : owned ⟨M.boxes.take n, M.fz.filter (fun b => decide (b < n)), M.arrs.take m⟩ ⟨E.bx.take n, E.ar.take m⟩ b) : owned M E b := by
 rcases h with ⟨i, cs, h1, h2, h3⟩ | ⟨k, A, o, e, h1, h2, h3⟩
 ·exact .inl ⟨i, cs, (take_get h1).2, fun hi => h2 (List.mem_filter.2 ⟨hi, by simpa using (take_get h1).1⟩), (take_get h3).2⟩
 ·exact .inr ⟨k, A, o, e, (take_get h1).2, h2, (take_get h3).2⟩
theorem away_take {n m : Nat} : ∀ b, away X ⟨M.boxes.take n, M.fz.filter (fun b => decide (b < n)), M.arrs.take m⟩ ⟨E.bx.take n, E.ar.take m⟩ b → away X M E b := fun _ h => h.imp id owned_take
mutual
theorem Rep.take {n m : Nat} {O O' : Nat → Prop} (hO : ∀ b, O' b → O b) : ∀ {v : Value} {p : PV}, p.upto n m = true → Rep w O M E v p → Rep w O' ⟨M.boxes.take n, M.fz.filter (fun b => decide (b < n)), M.arrs.take m⟩ ⟨E.bx.take n, E.ar.take m⟩ v p
 | _, _, _, .d h => .d (h.weaken hO)
 | _, _, hu, .ptr hl hb ho => by
  simp only [PV.upto, decide_eq_true_eq] at hu
  exact .ptr (by simp only [take_get' hu]; exact hl) (by simp only [take_get' hu]; exact hb) ho
 | _, _, hu, .mref hl hb ho => by
  simp only [PV.upto, decide_eq_true_eq] at hu
  exact .mref (by simp only [take_get' hu]; exact hl) (by simp only [take_get' hu]; exact hb) ho
 | _, _, hu, .yref hl hb ho => by
  simp only [PV.upto, decide_eq_true_eq] at hu
  exact .yref (by simp only [take_get' hu]; exact hl) (by simp only [take_get' hu]; exact hb) ho
 | _, _, hu, .iref hl hb ho => by
  simp only [PV.upto, decide_eq_true_eq] at hu
  exact .iref (by simp only [take_get' hu]; exact hl) (by simp only [take_get' hu]; exact hb) ho
 | _, _, hu, .eptr hlt h => by
  simp only [PV.upto, decide_eq_true_eq] at hu
  refine .eptr (by simp; omega) fun A hA => ?_
  simp only [take_get' hu] at hA ⊢
  obtain ⟨g1, g2⟩ := h A hA
  refine ⟨g1, fun hv => ?_⟩
  obtain ⟨loc, q1, q2, q3⟩ := g2 hv
  refine ⟨loc, q1, q2, ?_⟩
  cases loc with
  | none => exact RepD.weaken hO q3
  | some q => exact q3
 | _, _, hu, .tsl hlt h => by
  simp only [PV.upto, decide_eq_true_eq] at hu
  refine .tsl (by simp; omega) fun A hA => ?_
  simp only [take_get' hu] at hA ⊢
  obtain ⟨g1, g2⟩ := h A hA
  refine ⟨g1, fun hv => ?_⟩
  obtain ⟨loc, q1, q2, q3⟩ := g2 hv
  refine ⟨loc, q1, q2, ?_⟩
  cases loc with
  | none => exact RepD.weaken hO q3
  | some q => exact q3
 | _, _, hu, .psl hlt h => by
  simp only [PV.upto, decide_eq_true_eq] at hu
  refine .psl (by simp; omega) fun A hA => ?_
  simp only [take_get' hu] at hA ⊢
  obtain ⟨g1, g2⟩ := h A hA
  refine ⟨g1, fun hv => ?_⟩
  obtain ⟨loc, q1, q2, q3⟩ := g2 hv
  refine ⟨loc, q1, q2, ?_⟩
  cases loc with
  | none => exact RepD.weaken hO q3
  | some q => exact q3
 | _, _, _, .dead => .dead
 | _, _, hu, .func h1 h2 => by
  simp only [PV.upto, Bool.and_eq_true] at hu
  exact .func (RepP.takeU hO hu.1 h1) (RepP.takeU hO hu.2 h2)
 | _, _, hu, .agg h => by
  simp only [PV.upto] at hu
  exact .agg (RepP.takeU hO hu h)
 | _, _, hu, .tup h => by
  simp only [PV.upto] at hu
  exact .tup (RepP.takeU hO hu h)
theorem RepP.takeU {n m : Nat} {O O' : Nat → Prop} (hO : ∀ b, O' b → O b) : ∀ {v : List Value} {p : List PV}, uptoL n m p = true → RepP w O M E v p → RepP w O' ⟨M.boxes.take n, M.fz.filter (fun b => decide (b < n)), M.arrs.take m⟩ ⟨E.bx.take n, E.ar.take m⟩ v p
 | _, _, _, .nil => .nil
 | _, _, hu, .cons h t => by
  simp only [uptoL, Bool.and_eq_true] at hu
  exact .cons (Rep.take hO hu.1 h) (RepP.takeU hO hu.2 t)
end
theorem uptoL_of {n m : Nat} : ∀ {cs : List PV}, (∀ c ∈ cs, c.upto n m = true) → uptoL n m cs = true
 | [], _ => rfl
 | c :: cs, h => by
  simp only [uptoL, Bool.and_eq_true]
  exact ⟨h c (by simp), uptoL_of fun d hd => h d (by simp [hd])⟩
theorem weak_sound {k nb na : Nat} {s s' : St} {a : Act} {w₀ : World} {M₀ : Mem} {E₀ : Emb} (h : InS C X lo k s a w E) (hf : From w₀ M₀ E₀ w s.mem E) (hb : M₀.boxes.length ≤ nb) (ha : M₀.arrs.length ≤ na) (hw : Weak nb na s s') :
  ∃ E', InS C X lo k s' a w E' ∧ From w₀ M₀ E₀ w s'.mem E' := by
 rcases hw with rfl | hw
 ·exact ⟨E, h, hf⟩
 obtain ⟨n, m, hn, hm, hmem, henv, hbox⟩ := hw
 obtain ⟨env', mem'⟩ := s'
 simp only at hmem
 subst hmem
 refine ⟨⟨E.bx.take n, E.ar.take m⟩, ?_, ?_⟩
 ·exact
   {size := h.size, defers := h.defers, fix := h.fix
    env := fun t => by
     rcases henv t with hd | ⟨he, hu⟩
     ·simp only at hd ⊢; rw [hd]; exact .dead
     ·simp only at he hu ⊢
      rw [he] at hu ⊢
      exact (h.env t).take away_take hu
    sim :=
     {glob := h.sim.glob, lowX := h.sim.lowX, xlt := h.sim.xlt
      lenB := by simp [h.sim.lenB]
      lenA := by simp [h.sim.lenA]
      box := fun b cs hcs => by
       obtain ⟨h1, h2⟩ := take_get hcs
       obtain ⟨blk, q1, q2, q3⟩ := h.sim.box b cs h2
       refine ⟨blk, by rw [take_get' h1]; exact q1, q2, q3.move (fun _ ho => ho) (fun b o hb ho => ⟨ho, fun h => hb (away_take b h)⟩) fun vs ps hps q4 => q4.takeU away_take (uptoL_of fun c hc => ?_)⟩
       exact hbox (some cs) (List.mem_of_getElem? hcs) c (by simpa using hps c hc)
      arr := fun j A hA => by
       obtain ⟨h1, h2⟩ := take_get hA
       obtain ⟨q1, q2, q3, q4⟩ := h.sim.arr j A h2
       refine ⟨q1, q2, fun hs => by rw [take_get' h1]; exact q3 hs, fun blk o e he => ?_⟩
       rw [take_get' h1] at he
       obtain ⟨r1, vs, T, r2, r3, r4, r5⟩ := q4 blk o e he
       exact ⟨r1, vs, T, r2, r3, r4, r5.weaken away_take⟩
      bb := fun b b' cs cs' blk h1 h2 h3 h4 => h.sim.bb b b' cs cs' blk (take_get h1).2 (take_get h2).2 (take_get h3).2 (take_get h4).2
      aa := fun j j' A A' blk o e o' e' h1 h2 h3 h4 => h.sim.aa j j' A A' blk o e o' e' (take_get h1).2 (take_get h2).2 (take_get h3).2 (take_get h4).2
      ba := fun b j cs A blk o e h1 h2 h3 h4 => h.sim.ba b j cs A blk o e (take_get h1).2 (take_get h2).2 (take_get h3).2 (take_get h4).2 } }
 ·exact
   {os := hf.os, tape := hf.tape, output := hf.output, size := hf.size, keep := hf.keep
    own := fun b hb' => hf.own b (owned_take hb')
    lenB := by have := hf.lenB; simp only [List.length_take]; omega
    bx := fun b cs hcs => by
     have hlt : b < n := Nat.lt_of_lt_of_le (List.getElem?_eq_some_iff.1 hcs).1 (by omega)
     obtain ⟨h1, cs', h2, h3⟩ := hf.bx b cs hcs
     exact ⟨by rw [take_get' hlt]; exact h1, cs', by rw [take_get' hlt]; exact h2, h3⟩
    lenA := by have := hf.lenA; simp only [List.length_take]; omega
    ar := fun j A' hj hA => by
     have hlt : j < m := by omega
     rw [take_get' hlt] at hA ⊢
     exact hf.ar j A' hj hA }
theorem InS.frz {k : Nat} {s : St} {a : Act} {t : Nat} {d : DV} (h : InS C X lo k s a w E) (hd : datum s.mem (look s.env t) = some d) :
  InS C X lo k ⟨(t, .d d) :: s.env, s.mem.frz [look s.env t]⟩ a w E ∧ From w s.mem E w (s.mem.frz [look s.env t]) E := by
 have hf := from_frz (M := s.mem) (E := E) [look s.env t] w
 refine ⟨{ sim := sim_frz h.sim _, size := h.size, defers := h.defers, fix := h.fix, env := fun u => ?_ }, hf⟩
 simp only [look]
 by_cases hu : t = u
 ·subst hu
  simp only [beq_self_eq_true, cond_true]
  exact .d (datum_frz h.sim (h.env t) hd (by simp))
 ·have : (t == u) = false := by simp [hu]
  simp only [this, cond_false]
  exact (h.env u).from hf
theorem frzSt_sound {k : Nat} {K : St → Prop} : ∀ {ts : List Nat} {s : St} {a : Act}, frzSt ts K s → InS C X lo k s a w E → ∃ s', K s' ∧ InS C X lo k s' a w E ∧ From w s.mem E w s'.mem E
 | [], s, a, h, hi => ⟨s, h, hi, .refl _ _ _⟩
 | t :: ts, s, a, h, hi => by
  simp only [frzSt] at h
  split at h
  ·rename_i d hd
   obtain ⟨h1, h2⟩ := hi.frz hd
   obtain ⟨s', g1, g2, g3⟩ := frzSt_sound h h1
   exact ⟨s', g1, g2, h2.trans g3⟩
  ·exact h.elim
theorem look_keepEnv {l : List (Nat × PV)} : ∀ {ks : List Nat} (t : Nat), look (keepEnv l ks) t = look l t ∨ look (keepEnv l ks) t = .dead
 | [], t => .inr rfl
 | k :: ks, t => by
  simp only [keepEnv, List.map_cons, look]
  by_cases h : k = t
  ·subst h; simp
  ·have : (k == t) = false := by simp [h]
   simp only [this, cond_false]
   exact look_keepEnv (ks := ks) t
theorem InS.keep {k : Nat} {s : St} {a : Act} {ks : List Nat} (h : InS C X lo k s a w E) : InS C X lo k ⟨keepEnv s.env ks, s.mem⟩ a w E := {
 sim := h.sim
 size := h.size
 defers := h.defers
 fix := h.fix
 env := fun t => by
  rcases look_keepEnv (l := s.env) (ks := ks) t with he | he
  ·simp only [he]; exact h.env t
  ·simp only [he]; exact .dead }
theorem InS.reserve {k : Nat} {s : St} {a : Act} (n : Nat) (h : InS C X lo k s a w E) :
  InS C X lo k ⟨s.env, { s.mem with boxes := s.mem.boxes ++ List.replicate n none }⟩ a w { E with bx := E.bx ++ List.replicate n 0 } ∧
  From w s.mem E w { s.mem with boxes := s.mem.boxes ++ List.replicate n none } { E with bx := E.bx ++ List.replicate n 0 } := by
 obtain ⟨h1, h2⟩ := sim_reserve h.sim n
 exact ⟨{ sim := h1, size := h.size, defers := h.defers, fix := h.fix, env := fun t => (h.env t).from h2 }, h2⟩
end
end Go.Am
namespace Go.Am
inductive Kd where
 | p | rb | rr | rg | a (i : Nat) | wb (i : Nat) | wr | wo | w | x
 deriving DecidableEq
def kd (op : POp) (fl : Nat) : Kd :=
 match op with
 | .mov | .pick | .build _ _ | .nilck | .bin _ | .binA _ _ | .binB _ | .un _ | .conv _ | .mkF _ _ | .fldv _ _ _ | .idxS | .idxV _ _ _ | .ext _ | .lenS | .lenC _ | .shf _ | .minmax _ | .pcallD _ | .mlook _ _ | .tas _ _ => .p
 | .load _ _ => if fl = 1 then .p else if fl = 2 then .rb else if fl = 3 then .rr else .rg
 | .loadP _ _ => if fl = 1 then .p else if fl = 2 then .rb else .rg
 | .fld _ => if fl = 1 then .p else if fl = 2 then .p else if fl = 3 then .rr else .rg
 | .idxA _ => if fl = 1 then .p else .rr
 | .len => if fl = 1 then .p else .rr
 | .mkSl _ _ _ => if fl = 1 then .p else .x
 | .mkI _ => if fl = 1 then .p else .x
 | .slcD _ _ _ _ => if fl = 1 then .p else .x
 | .alloc i _ => .a i
 | .box i => .a i
 | .store _ => match fl with | 3 => .wr | 2 => .wo | i + 4 => .wb i | _ => .w
 | .app _ _ => .wr
 | .slcP _ => .rr
 | .copy _ => .wr
 | .mkSlR _ _ _ => .wr
 | .slcL _ => .rr
 | .appF _ => .wr
 | .pcall _ => if fl = 1 then .wr else .x
 | _ => .x
def Kd.swap : Kd → Kd → Bool
 | .x, _ => false
 | _, .x => false
 | .p, _ => true
 | _, .p => true
 | .rb, .a _ => true
 | .rr, .a _ => true
 | .rg, .a _ => true
 | .a i, .a j => decide (i ≠ j)
 | .a i, .wb j => decide (i ≠ j)
 | .wb i, .a j => decide (i ≠ j)
 | .wb i, .wb j => decide (i ≠ j)
 | .a _, .wr => true
 | .wr, .a _ => true
 | .wb _, .wr => true
 | .wr, .wb _ => true
 | .rb, .wb _ => true
 | .wb _, .rb => true
 | .rr, .wb _ => true
 | .wb _, .rr => true
 | .rb, .wr => true
 | .wr, .rb => true
 | .rb, .rb => true | .rb, .rr => true | .rb, .rg => true
 | .rr, .rb => true | .rr, .rr => true | .rr, .rg => true
 | .rg, .rb => true | .rg, .rr => true | .rg, .rg => true
 | .rr, .wo => true
 | .wo, .rr => true
 | _, _ => false
def Spec (base : Nat) (k : Kd) (R : Mem → PV → Mem → Prop) : Prop :=
 match k with
 | .p => ∃ V : PV → Prop, ∀ M v M', R M v M' ↔ V v ∧ M' = M
 | .rb => ∃ V : Mem → PV → Prop, (∀ M v M', R M v M' ↔ V M v ∧ M' = M) ∧ ∀ M M' v, (∀ b, b < base → M.boxes[b]? = M'.boxes[b]?) → V M v → V M' v
 | .rr => ∃ V : Mem → PV → Prop, (∀ M v M', R M v M' ↔ V M v ∧ M' = M) ∧ ∀ M M' v, M.arrs = M'.arrs → V M v → V M' v
 | .rg => ∃ V : Mem → PV → Prop, (∀ M v M', R M v M' ↔ V M v ∧ M' = M) ∧ ∀ M M' v, (∀ (b : Nat) (cs : List PV), M.boxes[b]? = some (some cs) → M'.boxes[b]? = some (some cs)) → M.arrs = M'.arrs → V M v → V M' v
 | .a i => ∃ (cs : List PV) (v0 : PV) (c : Prop), ∀ M v M', R M v M' ↔ c ∧ v = v0 ∧ M.boxes[base + i]? = some none ∧ M' = { M with boxes := M.boxes.set (base + i) (some cs) }
 | .wb i => ∃ g : List PV → List PV → Prop, ∀ M v M', R M v M' ↔ ∃ cs cs', M.boxes[base + i]? = some (some cs) ∧ base + i ∉ M.fz ∧ g cs cs' ∧ v = .dead ∧ M' = { M with boxes := M.boxes.set (base + i) (some cs') }
 | .wr => ∃ Q : List (Option Arr) → PV → List (Option Arr) → Prop, ∀ M v M', R M v M' ↔ ∃ as', Q M.arrs v as' ∧ M' = { M with arrs := as' }
 | .wo => ∃ Q : List (Option (List PV)) → List Nat → PV → List (Option (List PV)) → Prop, ∀ M v M', R M v M' ↔ ∃ bs', Q M.boxes M.fz v bs' ∧ M' = { M with boxes := bs' }
 | .w => True
 | .x => False
def Commute (R1 R2 : Mem → PV → Mem → Prop) : Prop := ∀ M v1 M1 v2 M2, R1 M v1 M1 → R2 M1 v2 M2 → ∃ M1', R2 M v2 M1' ∧ R1 M1' v1 M2
section
variable {base : Nat} {R1 R2 : Mem → PV → Mem → Prop}
theorem comm_pl {k : Kd} (h1 : Spec base .p R1) (_ : Spec base k R2) : Commute R1 R2 := by
 obtain ⟨V, hV⟩ := h1
 intro M v1 M1 v2 M2 r1 r2
 obtain ⟨g1, rfl⟩ := (hV _ _ _).1 r1
 exact ⟨M2, r2, (hV _ _ _).2 ⟨g1, rfl⟩⟩
theorem comm_pr (h2 : Spec base .p R2) : Commute R1 R2 := by
 obtain ⟨V, hV⟩ := h2
 intro M v1 M1 v2 M2 r1 r2
 obtain ⟨g1, rfl⟩ := (hV _ _ _).1 r2
 exact ⟨M, (hV _ _ _).2 ⟨g1, rfl⟩, r1⟩
def Reads' (R : Mem → PV → Mem → Prop) (Ag : Mem → Mem → Prop) : Prop := ∃ V : Mem → PV → Prop, (∀ M v M', R M v M' ↔ V M v ∧ M' = M) ∧ ∀ M M' v, Ag M M' → V M v → V M' v
theorem comm_rd {Ag Ag' : Mem → Mem → Prop} (h1 : Reads' R1 Ag) (h2 : Reads' R2 Ag') : Commute R1 R2 := by
 obtain ⟨V, hV, _⟩ := h1
 obtain ⟨V', hV', _⟩ := h2
 intro M v1 M1 v2 M2 r1 r2
 obtain ⟨g1, rfl⟩ := (hV _ _ _).1 r1
 obtain ⟨g2, rfl⟩ := (hV' _ _ _).1 r2
 exact ⟨_, r2, r1⟩
theorem comm_rw {Ag : Mem → Mem → Prop} (h1 : Reads' R1 Ag) (h2 : ∀ M v M', R2 M v M' → Ag M M') : Commute R1 R2 := by
 obtain ⟨V, hV, ha⟩ := h1
 intro M v1 M1 v2 M2 r1 r2
 obtain ⟨g1, rfl⟩ := (hV _ _ _).1 r1
 exact ⟨M2, r2, (hV _ _ _).2 ⟨ha _ _ _ (h2 _ _ _ r2) g1, rfl⟩⟩
theorem comm_wr {Ag : Mem → Mem → Prop} (h2 : Reads' R2 Ag) (h1 : ∀ M v M', R1 M v M' → Ag M' M) : Commute R1 R2 := by
 obtain ⟨V, hV, ha⟩ := h2
 intro M v1 M1 v2 M2 r1 r2
 obtain ⟨g1, rfl⟩ := (hV _ _ _).1 r2
 exact ⟨M, (hV _ _ _).2 ⟨ha _ _ _ (h1 _ _ _ r1) g1, rfl⟩, r1⟩
theorem spec_rb (h : Spec base .rb R1) : Reads' R1 fun M M' => ∀ b, b < base → M.boxes[b]? = M'.boxes[b]? := h
theorem spec_rr (h : Spec base .rr R1) : Reads' R1 fun M M' => M.arrs = M'.arrs := h
theorem spec_rg (h : Spec base .rg R1) : Reads' R1 fun M M' => (∀ (b : Nat) (cs : List PV), M.boxes[b]? = some (some cs) → M'.boxes[b]? = some (some cs)) ∧ M.arrs = M'.arrs := by
 obtain ⟨V, h1, h2⟩ := h
 exact ⟨V, h1, fun M M' v h => h2 M M' v h.1 h.2⟩
theorem set_ne {l : List (Option (List PV))} {i j : Nat} {x : Option (List PV)} (h : i ≠ j) : (l.set i x)[j]? = l[j]? := by rw [List.getElem?_set]; simp [h]
theorem a_old {i : Nat} (h : Spec base (.a i) R1) : ∀ M v M', R1 M v M' → ∀ b, b < base → M.boxes[b]? = M'.boxes[b]? := by
 obtain ⟨cs, v0, c, h⟩ := h
 intro M v M' r b hb
 obtain ⟨_, _, _, rfl⟩ := (h _ _ _).1 r
 rw [set_ne (by omega)]
theorem a_arrs {i : Nat} (h : Spec base (.a i) R1) : ∀ M v M', R1 M v M' → M.arrs = M'.arrs := by
 obtain ⟨cs, v0, c, h⟩ := h
 intro M v M' r
 obtain ⟨_, _, _, rfl⟩ := (h _ _ _).1 r
 rfl
theorem a_some {i : Nat} (h : Spec base (.a i) R1) : ∀ M v M', R1 M v M' → ∀ (b : Nat) (cs : List PV), M.boxes[b]? = some (some cs) → M'.boxes[b]? = some (some cs) := by
 obtain ⟨cs, v0, c, h⟩ := h
 intro M v M' r b cs' hb
 obtain ⟨_, _, h3, rfl⟩ := (h _ _ _).1 r
 by_cases hbi : base + i = b
 ·subst hbi; rw [h3] at hb; cases hb
 ·rw [set_ne hbi]; exact hb
theorem wb_old {i : Nat} (h : Spec base (.wb i) R1) : ∀ M v M', R1 M v M' → ∀ b, b < base → M.boxes[b]? = M'.boxes[b]? := by
 obtain ⟨g, h⟩ := h
 intro M v M' r b hb
 obtain ⟨cs, cs', _, _, _, _, rfl⟩ := (h _ _ _).1 r
 rw [set_ne (by omega)]
theorem wb_arrs {i : Nat} (h : Spec base (.wb i) R1) : ∀ M v M', R1 M v M' → M.arrs = M'.arrs := by
 obtain ⟨g, h⟩ := h
 intro M v M' r
 obtain ⟨cs, cs', _, _, _, _, rfl⟩ := (h _ _ _).1 r
 rfl
theorem wr_boxes (h : Spec base .wr R1) : ∀ M v M', R1 M v M' → ∀ b, b < base → M.boxes[b]? = M'.boxes[b]? := by
 obtain ⟨Q, h⟩ := h
 intro M v M' r b _
 obtain ⟨as', _, rfl⟩ := (h _ _ _).1 r
 rfl
theorem wo_arrs (h : Spec base .wo R1) : ∀ M v M', R1 M v M' → M.arrs = M'.arrs := by
 obtain ⟨Q, h⟩ := h
 intro M v M' r
 obtain ⟨bs', _, rfl⟩ := (h _ _ _).1 r
 rfl
theorem set_comm {l : List (Option (List PV))} {i j : Nat} {x y : Option (List PV)} (h : i ≠ j) : (l.set i x).set j y = (l.set j y).set i x := List.set_comm _ _ h
theorem comm_swap {k1 k2 : Kd} (h : k1.swap k2 = true) (h1 : Spec base k1 R1) (h2 : Spec base k2 R2) : Commute R1 R2 := by
 unfold Kd.swap at h
 split at h
 ·cases h
 ·cases h
 ·exact comm_pl h1 h2
 ·exact comm_pr h2
 ·exact comm_rw (spec_rb h1) (a_old h2)
 ·exact comm_rw (spec_rr h1) (a_arrs h2)
 ·exact comm_rw (spec_rg h1) fun M v M' r => ⟨a_some h2 M v M' r, a_arrs h2 M v M' r⟩
 ·rename_i i j
  simp only [decide_eq_true_eq] at h
  obtain ⟨cs, v0, c, h1⟩ := h1
  obtain ⟨ds, u0, d, h2⟩ := h2
  intro M v1 M1 v2 M2 r1 r2
  obtain ⟨a1, a2, a3, rfl⟩ := (h1 _ _ _).1 r1
  obtain ⟨b1, b2, b3, rfl⟩ := (h2 _ _ _).1 r2
  simp only [set_ne (show base + i ≠ base + j by omega)] at b3
  refine ⟨_, (h2 _ _ _).2 ⟨b1, b2, b3, rfl⟩, (h1 _ _ _).2 ⟨a1, a2, ?_, ?_⟩⟩
  ·simp only [set_ne (show base + j ≠ base + i by omega)]; exact a3
  ·simp only [set_comm (show base + i ≠ base + j by omega)]
 ·rename_i i j
  simp only [decide_eq_true_eq] at h
  obtain ⟨cs, v0, c, h1⟩ := h1
  obtain ⟨g, h2⟩ := h2
  intro M v1 M1 v2 M2 r1 r2
  obtain ⟨a1, a2, a3, rfl⟩ := (h1 _ _ _).1 r1
  obtain ⟨ds, ds', b1, b2, b3, b4, rfl⟩ := (h2 _ _ _).1 r2
  simp only [set_ne (show base + i ≠ base + j by omega)] at b1
  refine ⟨_, (h2 _ _ _).2 ⟨ds, ds', b1, b2, b3, b4, rfl⟩, (h1 _ _ _).2 ⟨a1, a2, ?_, ?_⟩⟩
  ·simp only [set_ne (show base + j ≠ base + i by omega)]; exact a3
  ·simp only [set_comm (show base + i ≠ base + j by omega)]
 ·rename_i i j
  simp only [decide_eq_true_eq] at h
  obtain ⟨cs, v0, c, h2⟩ := h2
  obtain ⟨g, h1⟩ := h1
  intro M v1 M1 v2 M2 r1 r2
  obtain ⟨ds, ds', b1, b2, b3, b4, rfl⟩ := (h1 _ _ _).1 r1
  obtain ⟨a1, a2, a3, rfl⟩ := (h2 _ _ _).1 r2
  simp only [set_ne (show base + i ≠ base + j by omega)] at a3
  refine ⟨_, (h2 _ _ _).2 ⟨a1, a2, a3, rfl⟩, (h1 _ _ _).2 ⟨ds, ds', ?_, b2, b3, b4, ?_⟩⟩
  ·simp only [set_ne (show base + j ≠ base + i by omega)]; exact b1
  ·simp only [set_comm (show base + i ≠ base + j by omega)]
 ·rename_i i j
  simp only [decide_eq_true_eq] at h
  obtain ⟨g', h2⟩ := h2
  obtain ⟨g, h1⟩ := h1
  intro M v1 M1 v2 M2 r1 r2
  obtain ⟨ds, ds', b1, b2, b3, b4, rfl⟩ := (h1 _ _ _).1 r1
  obtain ⟨es, es', a1, a2, a3, a4, rfl⟩ := (h2 _ _ _).1 r2
  simp only [set_ne (show base + i ≠ base + j by omega)] at a1
  refine ⟨_, (h2 _ _ _).2 ⟨es, es', a1, a2, a3, a4, rfl⟩, (h1 _ _ _).2 ⟨ds, ds', ?_, b2, b3, b4, ?_⟩⟩
  ·simp only [set_ne (show base + j ≠ base + i by omega)]; exact b1
  ·simp only [set_comm (show base + i ≠ base + j by omega)]
 ·obtain ⟨cs, v0, c, h1⟩ := h1
  obtain ⟨Q, h2⟩ := h2
  intro M v1 M1 v2 M2 r1 r2
  obtain ⟨a1, a2, a3, rfl⟩ := (h1 _ _ _).1 r1
  obtain ⟨as', b1, rfl⟩ := (h2 _ _ _).1 r2
  exact ⟨_, (h2 _ _ _).2 ⟨as', b1, rfl⟩, (h1 _ _ _).2 ⟨a1, a2, a3, rfl⟩⟩
 ·obtain ⟨cs, v0, c, h2⟩ := h2
  obtain ⟨Q, h1⟩ := h1
  intro M v1 M1 v2 M2 r1 r2
  obtain ⟨as', b1, rfl⟩ := (h1 _ _ _).1 r1
  obtain ⟨a1, a2, a3, rfl⟩ := (h2 _ _ _).1 r2
  exact ⟨_, (h2 _ _ _).2 ⟨a1, a2, a3, rfl⟩, (h1 _ _ _).2 ⟨as', b1, rfl⟩⟩
 ·obtain ⟨g, h1⟩ := h1
  obtain ⟨Q, h2⟩ := h2
  intro M v1 M1 v2 M2 r1 r2
  obtain ⟨cs, cs', a1, a2, a3, a4, rfl⟩ := (h1 _ _ _).1 r1
  obtain ⟨as', b1, rfl⟩ := (h2 _ _ _).1 r2
  exact ⟨_, (h2 _ _ _).2 ⟨as', b1, rfl⟩, (h1 _ _ _).2 ⟨cs, cs', a1, a2, a3, a4, rfl⟩⟩
 ·obtain ⟨g, h2⟩ := h2
  obtain ⟨Q, h1⟩ := h1
  intro M v1 M1 v2 M2 r1 r2
  obtain ⟨as', b1, rfl⟩ := (h1 _ _ _).1 r1
  obtain ⟨cs, cs', a1, a2, a3, a4, rfl⟩ := (h2 _ _ _).1 r2
  exact ⟨_, (h2 _ _ _).2 ⟨cs, cs', a1, a2, a3, a4, rfl⟩, (h1 _ _ _).2 ⟨as', b1, rfl⟩⟩
 ·exact comm_rw (spec_rb h1) (wb_old h2)
 ·exact comm_wr (spec_rb h2) fun M v M' r b hb => (wb_old h1 M v M' r b hb).symm
 ·exact comm_rw (spec_rr h1) (wb_arrs h2)
 ·exact comm_wr (spec_rr h2) fun M v M' r => (wb_arrs h1 M v M' r).symm
 ·exact comm_rw (spec_rb h1) (wr_boxes h2)
 ·exact comm_wr (spec_rb h2) fun M v M' r b hb => (wr_boxes h1 M v M' r b hb).symm
 ·exact comm_rd (spec_rb h1) (spec_rb h2)
 ·exact comm_rd (spec_rb h1) (spec_rr h2)
 ·exact comm_rd (spec_rb h1) (spec_rg h2)
 ·exact comm_rd (spec_rr h1) (spec_rb h2)
 ·exact comm_rd (spec_rr h1) (spec_rr h2)
 ·exact comm_rd (spec_rr h1) (spec_rg h2)
 ·exact comm_rd (spec_rg h1) (spec_rb h2)
 ·exact comm_rd (spec_rg h1) (spec_rr h2)
 ·exact comm_rd (spec_rg h1) (spec_rg h2)
 ·exact comm_rw (spec_rr h1) (wo_arrs h2)
 ·exact comm_wr (spec_rr h2) fun M v M' r => (wo_arrs h1 M v M' r).symm
 ·cases h
end
end Go.Am
