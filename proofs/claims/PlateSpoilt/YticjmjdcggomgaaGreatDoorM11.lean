/-
  Part 11 of the proof of a law of plates: an abstract machine over the model, contracts of functions, plain laws.
  Conditions: none.
-/
import Derived.Test.YticjmjdcggomgaaGreatDoorM10
import Derived.RangeFuncRecord
import Derived.Sort.LoopGhostIn
set_option linter.all false
namespace Go.Am
def plainC : PCode → Bool
 | .seq a b => plainC a && plainC b
 | .cond _ a b => plainC a && plainC b
 | .block _ c => plainC c
 | .scope c => plainC c
 | .loop _ => false
 | .rangeF _ _ _ _ _ => false
 | _ => true
theorem pwp_nb {C : Ctx} {nb na nb' na' : Nat} : ∀ (pc : PCode), plainC pc = true → ∀ (Q : Ex → St → Prop), pwp C nb na pc Q = pwp C nb' na' pc Q
 | .skip, _, _ => rfl
 | .region _ _ _ _ _, _, _ => rfl
 | .exit _, _, _ => rfl
 | .label _, _, _ => rfl
 | .ret, _, _ => rfl
 | .seq a b, h, Q => by
  simp only [plainC, Bool.and_eq_true] at h
  funext s
  simp only [pwp]
  rw [pwp_nb (nb' := nb') (na' := na') a h.1]
  simp only [pwp_nb (nb' := nb') (na' := na') b h.2]
 | .cond c a b, h, Q => by
  simp only [plainC, Bool.and_eq_true] at h
  funext s
  simp only [pwp]
  rw [pwp_nb (nb' := nb') (na' := na') a h.1, pwp_nb (nb' := nb') (na' := na') b h.2]
 | .block id c, h, Q => by
  simp only [plainC] at h
  funext s
  simp only [pwp]
  rw [pwp_nb (nb' := nb') (na' := na') c h]
 | .scope c, h, Q => by
  simp only [plainC] at h
  funext s
  simp only [pwp]
  rw [pwp_nb (nb' := nb') (na' := na') c h]
 | .loop _, h, _ => by simp [plainC] at h
 | .rangeF _ _ _ _ _, h, _ => by simp [plainC] at h
def noDst (t : Nat) : Code → Bool
 | .seq a b => noDst t a && noDst t b
 | .cond _ a b => noDst t a && noDst t b
 | .block _ c => noDst t c
 | .loop c => noDst t c
 | .scope c => noDst t c
 | .region _ ops _ => ops.all fun o => o.dst != some t
 | .rangeFunc _ _ _ _ => false
 | _ => true
def chk (P : Program) (n : Nat) : Code → PCode → Bool
 | .skip, .skip => true
 | .region _ ops draw, .region d ps _ _ _ => draw == d && okPOs P n ops ops.toList ps && (!d || okDraw ops ps)
 | .seq a b, .seq a' b' => chk P n a a' && chk P n b b'
 | .cond c x y, .cond c' x' y' => okOpd c c' && chk P n x x' && chk P n y y'
 | .block id c, .block id' c' => id == id' && chk P n c c'
 | .loop c, .loop c' => chk P n c c'
 | .exit id, .exit id' => id == id'
 | .scope c, .scope c' => chk P n c c'
 | .label l, .label l' => l == l'
 | .ret, .ret => true
 | .rangeFunc f ps x y, .rangeF f' ps' keys x' y' => okOpd f f' && decide (ps.toList = ps') && decide ps'.Nodup && (ps'.all (· < n)) && (keys.all (· < n)) && chk P n x x' && chk P n y y' && plainC x' && plainC y'
 | _, _ => false
section
variable {F : Fence} {n : Nat} {P : Program} {b : Frame} {a : Act} {k : List Item} {cs : List Frame} {w : World} {Q : Exit → Act → World → Prop}
theorem stepR_scope {c : Code} : step P (lone (b.atR a (.code (.scope c) :: k)) cs w) = .next (lone (b.atR a (.code c :: .inScope c :: k)) cs w) :=
 step_lone_go (by simp [stepG, stepG.exec, Frame.atR])
theorem stepR_inScope {c : Code} : step P (lone (b.atR a (.inScope c :: k)) cs w) = .next (lone (b.atR a k) cs w) :=
 step_lone_go (by simp [stepG, stepG.exec, Frame.atR])
theorem wpIn_scope_straight {c : Code} (h : c.wpIn F n P (Exit.noGoto Q) a w) : (Code.scope c).wpIn F n P Q a w := by
 intro b k cs hro hb hr
 have h0 : (lone (b.atR a (.code (.scope c) :: k)) cs w).fenced P F := fenced_calm hb hr rfl
 obtain ⟨e, a₁, w₁, hq, harr⟩ := h b (.inScope c :: k) cs hro hb hr
 cases e with
 | normal => exact ⟨.normal, a₁, w₁, hq, .head h0 stepR_scope (StepsIn.trans harr (.one (fenced_calm hb hr rfl) stepR_inScope))⟩
 | exit id =>
  have hx : exitTo id (.inScope c :: k) = exitTo id k := by simp [exitTo]
  exact ⟨.exit id, a₁, w₁, hq, fun k' hk => .head h0 stepR_scope (harr.1 k' (by rw [hx]; exact hk)),
   fun hr' hk => let ⟨k₁, h1, h2⟩ := harr.2 hr' (by rw [hx]; exact hk); ⟨k₁, h1, .head h0 stepR_scope h2⟩⟩
 | goto l => exact hq.elim
 | ret => exact ⟨_, a₁, w₁, hq, .of_steps (.one h0 stepR_scope) harr⟩
 | panic ch => exact ⟨_, a₁, w₁, hq, .of_steps (.one h0 stepR_scope) harr⟩
 | outgrown => exact ⟨_, a₁, w₁, hq, .of_steps (.one h0 stepR_scope) harr⟩
end
section
variable {C : Ctx} {X : Nat → Prop}
theorem EptrAt.move {w w' : World} {O O' : Nat → Prop} (hk : ∀ b o, ¬ O b → w.heap[b]? = some o → w'.heap[b]? = some o ∧ ¬ O' b) {A : Arr} {loc : Option (Nat × Nat × Nat)} {i off : Nat} {v : Value} (h : EptrAt w O A loc i off v) : EptrAt w' O' A loc i off v := by
 refine ⟨h.1, ?_⟩
 cases loc with
 | none => exact RepD.mono hk h.2
 | some q => exact h.2
theorem TslAt.move {w w' : World} {O O' : Nat → Prop} (hk : ∀ b o, ¬ O b → w.heap[b]? = some o → w'.heap[b]? = some o ∧ ¬ O' b) {A : Arr} {loc : Option (Nat × Nat × Nat)} {skip : Nat} {v : Value} (h : TslAt w O A loc skip v) : TslAt w' O' A loc skip v := by
 refine ⟨h.1, ?_⟩
 cases loc with
 | none => exact RepD.mono hk h.2
 | some q => exact h.2
theorem PslAt.move {w w' : World} {O O' : Nat → Prop} (hk : ∀ b o, ¬ O b → w.heap[b]? = some o → w'.heap[b]? = some o ∧ ¬ O' b) {A : Arr} {loc : Option (Nat × Nat × Nat)} {skip len : Nat} {v : Value} (h : PslAt w O A loc skip len v) : PslAt w' O' A loc skip len v := by
 refine ⟨h.1, ?_⟩
 cases loc with
 | none => exact RepD.mono hk h.2
 | some q => exact h.2
mutual
theorem Rep.move {w w' : World} {O O' : Nat → Prop} {M : Mem} {E : Emb} (hk : ∀ b o, ¬ O b → w.heap[b]? = some o → w'.heap[b]? = some o ∧ ¬ O' b) : ∀ {v : Value} {p : PV}, Rep w O M E v p → Rep w' O' M E v p
 | _, _, .d h => .d (h.mono hk)
 | _, _, .ptr hl hb ho => .ptr hl hb ho
 | _, _, .mref hl hb ho => .mref hl hb ho
 | _, _, .yref hl hb ho => .yref hl hb ho
 | _, _, .iref hl hb ho => .iref hl hb ho
 | _, _, .eptr hlt h => .eptr hlt fun A hA => by
   obtain ⟨h1, h2⟩ := h A hA
   exact ⟨h1, fun e => by obtain ⟨loc, g1, g2⟩ := h2 e; exact ⟨loc, g1, g2.move hk⟩⟩
 | _, _, .tsl hlt h => .tsl hlt fun A hA => by
   obtain ⟨h1, h2⟩ := h A hA
   exact ⟨h1, fun e => by obtain ⟨loc, g1, g2⟩ := h2 e; exact ⟨loc, g1, g2.move hk⟩⟩
 | _, _, .psl hlt h => .psl hlt fun A hA => by
   obtain ⟨h1, h2⟩ := h A hA
   exact ⟨h1, fun e => by obtain ⟨loc, g1, g2⟩ := h2 e; exact ⟨loc, g1, g2.move hk⟩⟩
 | _, _, .dead => .dead
 | _, _, .func h1 h2 => .func (RepP.move hk h1) (RepP.move hk h2)
 | _, _, .agg h => .agg (RepP.move hk h)
 | _, _, .tup h => .tup (RepP.move hk h)
theorem RepP.move {w w' : World} {O O' : Nat → Prop} {M : Mem} {E : Emb} (hk : ∀ b o, ¬ O b → w.heap[b]? = some o → w'.heap[b]? = some o ∧ ¬ O' b) : ∀ {v : List Value} {p : List PV}, RepP w O M E v p → RepP w' O' M E v p
 | _, _, .nil => .nil
 | _, _, .cons h t => .cons (Rep.move hk h) (RepP.move hk t)
end
theorem Sim.shift {X' : Nat → Prop} {w w' : World} {M : Mem} {E : Emb} (h : Sim C X w M E) (hlow : ∀ b, C.low b → X' b) (hlt : ∀ b, X' b → b < w'.heap.size) (hg : ∀ b, C.low b → w'.heap[b]? = w.heap[b]?)
  (hk : ∀ b o, ¬ X b → w.heap[b]? = some o → w'.heap[b]? = some o ∧ ¬ X' b) : Sim C X' w' M E ∧ (∀ b o, ¬ away X M E b → w.heap[b]? = some o → w'.heap[b]? = some o ∧ ¬ away X' M E b) := by
 have hk' : ∀ b o, ¬ away X M E b → w.heap[b]? = some o → w'.heap[b]? = some o ∧ ¬ away X' M E b := by
  intro b o hb ho
  obtain ⟨h1, h2⟩ := hk b o (fun hx => hb (.inl hx)) ho
  exact ⟨h1, fun hx => hx.elim h2 fun ho' => hb (.inr ho')⟩
 refine ⟨?_, hk'⟩
 exact
  {glob := C.keeps w w' h.glob hg, lowX := hlow, xlt := hlt, lenB := h.lenB, lenA := h.lenA
   box := fun b cs hb => by
    obtain ⟨blk, h1, h2, h3⟩ := h.box b cs hb
    obtain ⟨o, ho⟩ := h3.obj
    exact ⟨blk, h1, (hk blk o h2 ho).2, h3.move (fun o ho => (hk blk o h2 ho).1) hk' fun _ _ _ hr => hr.move hk'⟩
   arr := fun k A hA => by
    obtain ⟨h1, h2, h3, h4⟩ := h.arr k A hA
    refine ⟨h1, h2, h3, fun blk o e he => ?_⟩
    obtain ⟨g1, vs, T, g2, g3, g4, g5⟩ := h4 blk o e he
    exact ⟨(hk blk _ g1 g2).2, vs, T, (hk blk _ g1 g2).1, g3, g4, g5.mono hk'⟩
   bb := h.bb, aa := h.aa, ba := h.ba }
theorem Sim.less {X' : Nat → Prop} {w : World} {M : Mem} {E : Emb} (h : Sim C X w M E) (hx : ∀ b, X' b → X b) (hlow : ∀ b, C.low b → X' b) : Sim C X' w M E :=
 (h.shift hlow (fun b hb => h.xlt b (hx b hb)) (fun _ _ => rfl) fun b o hb ho => ⟨ho, fun h' => hb (hx b h')⟩).1
theorem Rep.less {X' : Nat → Prop} {w : World} {M : Mem} {E : Emb} {v : Value} {p : PV} (h : Rep w (away X M E) M E v p) (hx : ∀ b, X' b → X b) : Rep w (away X' M E) M E v p :=
 h.move fun b o hb ho => ⟨ho, fun h' => hb (h'.imp (hx b) id)⟩
theorem sim_loop {w : World} {M : Mem} {E : Emb} {b : Nat} {L : Loop} {st st' : LoopState} {pd pd' : Option Code} {cells : List PV} (h : Sim C X w M E) (hb : M.boxes[b]? = some (some (.loopc { L with state := st, pending := pd } :: cells))) (hfz : b ∉ M.fz) :
  ∃ (l : Nat) (tmps : Array Value), E.bx[b]? = some l ∧ ¬ X l ∧ tmps.size = L.tmps.size ∧ w.heap[l]? = some (.loop { L with state := st, pending := pd, tmps := tmps }) ∧ RepP w (away X M E) M E tmps.toList cells ∧
   Sim C X (w.putObj l (.loop { L with state := st', pending := pd', tmps := tmps })) { M with boxes := M.boxes.set b (some (.loopc { L with state := st', pending := pd' } :: cells)) } E ∧
   From w M E (w.putObj l (.loop { L with state := st', pending := pd', tmps := tmps })) { M with boxes := M.boxes.set b (some (.loopc { L with state := st', pending := pd' } :: cells)) } E := by
 obtain ⟨l, q1, q2, q3⟩ := h.box b _ hb
 obtain ⟨tmps, r1, r2, r3⟩ := q3
 have hlt := getElem?_lt r2
 obtain ⟨s1, s2⟩ := sim_put (cs' := .loopc { L with state := st', pending := pd' } :: cells) h hb hfz rfl rfl q1 (put_set w l (.loop { L with state := st', pending := pd', tmps := tmps }) hlt)
  fun hf => ⟨tmps, r1, by simp [hlt], r3.from hf⟩
 exact ⟨l, tmps, q1, q2, r1, r2, r3, s1, s2⟩
theorem foldl_set_size : ∀ (l : List (Nat × Value)) (tmps : Array Value), (l.foldl (fun t (x : Nat × Value) => t.setIfInBounds x.1 x.2) tmps).size = tmps.size
 | [], _ => rfl
 | x :: l, tmps => by rw [List.foldl_cons, foldl_set_size l]; simp
theorem foldl_set_notin {t : Nat} : ∀ (l : List (Nat × Value)) (tmps : Array Value), (∀ x ∈ l, x.1 ≠ t) → (l.foldl (fun t (x : Nat × Value) => t.setIfInBounds x.1 x.2) tmps).getD t undef = tmps.getD t undef
 | [], _, _ => rfl
 | x :: l, tmps, h => by
  rw [List.foldl_cons, foldl_set_notin l _ fun y hy => h y (by simp [hy])]
  have : x.1 ≠ t := h x (by simp)
  simp only [Array.getD_eq_getD_getElem?, Array.getElem?_setIfInBounds_ne this]
theorem round_env {R : Value → PV → Prop} {env0 : List (Nat × PV)} {t : Nat} : ∀ (ps : List Nat) (vs : List Value) (ds : List PV) (tmps : Array Value), vs.length = ps.length → ds.length = ps.length → ps.Nodup → (∀ p ∈ ps, p < tmps.size) →
  (∀ (i : Nat) (v : Value) (d : PV), vs[i]? = some v → ds[i]? = some d → R v d) → (t ∉ ps → R (tmps.getD t undef) (look env0 t)) →
  R (((ps.zip vs).foldl (fun t (x : Nat × Value) => t.setIfInBounds x.1 x.2) tmps).getD t undef) (look (ps.zip ds ++ env0) t)
 | [], _, _, _, _, _, _, _, _, h => by simpa using h
 | p :: ps, [], _, _, h, _, _, _, _, _ => by simp at h
 | p :: ps, _ :: _, [], _, _, h, _, _, _, _ => by simp at h
 | p :: ps, v :: vs, d :: ds, tmps, h1, h2, hn, hlt, hr, h0 => by
  rw [List.nodup_cons] at hn
  simp only [List.zip_cons_cons, List.foldl_cons, List.cons_append, look]
  by_cases hp : p = t
  ·subst hp
   simp only [beq_self_eq_true, cond_true]
   rw [foldl_set_notin _ _ fun x hx e => hn.1 (by rw [← e]; exact (List.of_mem_zip hx).1)]
   have : p < tmps.size := hlt p (by simp)
   have e : (tmps.setIfInBounds p v).getD p undef = v := by simp [Array.getD_eq_getD_getElem?, this]
   rw [e]
   exact hr 0 v d rfl rfl
  ·have : (p == t) = false := by simp [hp]
   simp only [this, cond_false]
   refine round_env ps vs ds _ (by simpa using h1) (by simpa using h2) hn.2 (fun q hq => by simpa using hlt q (by simp [hq])) (fun i v d hv hd => hr (i + 1) v d (by simpa using hv) (by simpa using hd)) fun ht => ?_
   have e : (tmps.setIfInBounds p v).getD t undef = tmps.getD t undef := by simp only [Array.getD_eq_getD_getElem?, Array.getElem?_setIfInBounds_ne hp]
   rw [e]
   exact h0 (by simp [ht, Ne.symm hp])
theorem look_keep_lt {s : St} {n : Nat} {keys : List Nat} (hk : keys.all (· < n) = true) (t : Nat) : look (keepEnv s.env keys) t = .dead ∨ (t < n ∧ look (keepEnv s.env keys) t = look s.env t) := by
 induction keys with
 | nil => exact .inl rfl
 | cons k ks ih =>
  simp only [List.all_cons, Bool.and_eq_true, decide_eq_true_eq] at hk
  simp only [keepEnv, List.map_cons, look]
  by_cases h : k = t
  ·subst h; simp [hk.1]
  ·have : (k == t) = false := by simp [h]
   simp only [this, cond_false]
   exact ih hk.2
theorem InS.from {lo : Lo} {n : Nat} {s : St} {a : Act} {w w' : World} {E E' : Emb} {M' : Mem} (h : InS C X lo n s a w E) (hS : Sim C X w' M' E') (hf : From w s.mem E w' M' E') : InS C X lo n ⟨s.env, M'⟩ a w' E' := {
 sim := hS
 env := fun t => (h.env t).from hf
 size := h.size
 defers := h.defers.from h.sim hf
 fix := h.fix }
theorem loopMem_get {M : Mem} {L : Loop} {st : LoopState} {pd : Option Code} {cells : List PV} {xb : List (Option (List PV))} {xf : List Nat} {xa : List (Option Arr)} : (loopMem M L st pd cells xb xf xa).boxes[M.boxes.length]? = some (some (.loopc { L with state := st, pending := pd } :: cells)) := by simp [loopMem]
theorem loopMem_set {M : Mem} {L : Loop} {st st' : LoopState} {pd pd' : Option Code} {cells : List PV} {xb : List (Option (List PV))} {xf : List Nat} {xa : List (Option Arr)} :
  ({ loopMem M L st pd cells xb xf xa with boxes := (loopMem M L st pd cells xb xf xa).boxes.set M.boxes.length (some (.loopc { L with state := st', pending := pd' } :: cells)) } : Mem) = loopMem M L st' pd' cells xb xf xa := by
 simp [loopMem]
theorem code_sound (hm : C.P.follows .mixedOrders = true) {n : Nat} : ∀ (c : Code) (pc : PCode) {X : Nat → Prop} {w₀ : World} {M₀ : Mem} {E₀ : Emb} {nb na : Nat} (_ : M₀.boxes.length ≤ nb) (_ : M₀.arrs.length ≤ na) (ro : Option Nat) (ds₀ : List Deferred) (ex : Bool) (fx : Option (Nat × Value)) (Q : Ex → St → Prop) (s : St) (a : Act) (w : World) (E : Emb),
  (∀ q, fx = some q → noDst q.1 c = true) → (ro = none ∨ plainC pc = true) → (ex = true → plainC pc = true) → chk C.P n c pc = true → pwp C nb na pc Q s → InS C X ⟨w₀.heap.size, ds₀, ex, fx⟩ n s a w E → From w₀ M₀ E₀ w s.mem E → c.wpIn (RF ro) 0 C.P (Post C X n w₀ M₀ E₀ ds₀ ex fx Q) a w
 | .skip, pc, X, w₀, M₀, E₀, nb, na, hb, ha, ro, ds₀, ex, fx, Q, s, a, w, E, hnd, hro, hex, hc, h, hi, hf => by
  cases pc <;> simp only [chk, Bool.false_eq_true] at hc
  exact wpIn_skip ⟨X, s, E, fun _ h => h, h, hi, hf⟩
 | .label l, pc, X, w₀, M₀, E₀, nb, na, hb, ha, ro, ds₀, ex, fx, Q, s, a, w, E, hnd, hro, hex, hc, h, hi, hf => by
  cases pc <;> simp only [chk, Bool.false_eq_true] at hc
  exact wpIn_label ⟨X, s, E, fun _ h => h, h, hi, hf⟩
 | .exit id, pc, X, w₀, M₀, E₀, nb, na, hb, ha, ro, ds₀, ex, fx, Q, s, a, w, E, hnd, hro, hex, hc, h, hi, hf => by
  cases pc <;> simp only [chk, Bool.false_eq_true, beq_iff_eq] at hc
  subst hc
  exact wpIn_exit ⟨X, s, E, fun _ h => h, h, hi, hf⟩
 | .ret, pc, X, w₀, M₀, E₀, nb, na, hb, ha, ro, ds₀, ex, fx, Q, s, a, w, E, hnd, hro, hex, hc, h, hi, hf => by
  cases pc <;> simp only [chk, Bool.false_eq_true] at hc
  exact wpIn_ret ⟨X, s, E, fun _ h => h, h, hi, hf⟩
 | .region id ops draw, pc, X, w₀, M₀, E₀, nb, na, hb, ha, ro, ds₀, ex, fx, Q, s, a, w, E, hnd, hro, hex, hc, h, hi, hf => by
  cases pc <;> simp only [chk, Bool.false_eq_true] at hc
  rename_i d ps nres keep fz
  simp only [Bool.and_eq_true, beq_iff_eq] at hc
  obtain ⟨⟨rfl, hok⟩, hdr⟩ := hc
  simp only [pwp] at h
  obtain ⟨i1, f1⟩ := hi.reserve nres
  have hK : ∀ s' a' w' E', (fun s' : St => frzSt fz (Q .normal) ⟨keepEnv s'.env keep, s'.mem⟩) s' → InS C X ⟨w₀.heap.size, ds₀, ex, fx⟩ n s' a' w' E' → From w₀ M₀ E₀ w' s'.mem E' → Post C X n w₀ M₀ E₀ ds₀ ex fx Q .normal a' w' := by
   intro s' a' w' E' hk hi' hf'
   obtain ⟨s2, g1, g2, g3⟩ := frzSt_sound hk hi'.keep
   exact ⟨X, s2, E', fun _ h => h, g1, g2, hf'.trans g3⟩
  have hKP : ∀ d M' a' w' E' v, (fun d M => Q (.panic d) ⟨[], M⟩) d M' → Sim C X w' M' E' → From w₀ M₀ E₀ w' M' E' → RepD w' (away X M' E') v d → okD ⟨w₀.heap.size, ds₀, ex, fx⟩ X a'.defers w' → (∀ q, fx = some q → a'.eval (.tmp q.1) = q.2) → Post C X n w₀ M₀ E₀ ds₀ ex fx Q (.panic [{ v, recovered := false }]) a' w' := by
   intro d M' a' w' E' v h1 h2 h3 h4 h5 h6
   exact ⟨X, v, d, M', E', fun _ h => h, rfl, h1, h2, h3, h4, h5, h6⟩
  have hfx : ∀ q, (⟨w₀.heap.size, ds₀, ex, fx⟩ : Lo).fx = some q → ∀ o ∈ ops, o.dst ≠ some q.1 := fun q hq o ho => by
   have := hnd q hq
   simp only [noDst, Array.all_eq_true'] at this
   simpa using this o ho
  cases draw with
  | false => exact wpIn_region (wpOps_region hfx hok i1 (hf.trans f1) h hK hKP)
  | true =>
   refine draw_sound hfx hm hok (by simpa using hdr) ?_ i1 (hf.trans f1) h hK hKP
   intro s1 s2 he hmm hk
   have : keepEnv s1.env keep = keepEnv s2.env keep := by simp only [keepEnv, he]
   simp only [this, hmm] at hk
   exact hk
 | .seq x y, pc, X, w₀, M₀, E₀, nb, na, hb, ha, ro, ds₀, ex, fx, Q, s, a, w, E, hnd, hro, hex, hc, h, hi, hf => by
  cases pc <;> simp only [chk, Bool.false_eq_true, Bool.and_eq_true] at hc
  simp only [plainC, Bool.and_eq_true] at hro hex
  simp only [pwp] at h
  refine wpIn_seq (wpIn_mono (code_sound hm x _ hb ha ro ds₀ ex fx _ s a w E (fun q hq => (Bool.and_eq_true_iff.1 (hnd q hq)).1) (hro.imp id And.left) (fun e => (hex e).1) hc.1 h hi hf) fun e a' w' hp => ?_)
  cases e with
  | normal =>
   obtain ⟨X', s', E', hx, h1, h2, h3⟩ := hp
   exact wpIn_mono (code_sound hm y _ hb ha ro ds₀ ex fx Q s' a' w' E' (fun q hq => (Bool.and_eq_true_iff.1 (hnd q hq)).2) (hro.imp id And.right) (fun e => (hex e).2) hc.2 h1 h2 h3) fun e a w hp => hp.up hx
  | exit id => exact hp
  | ret => exact hp
  | panic ch => exact hp
  | goto l => exact hp.elim
  | outgrown => exact hp.elim
 | .cond c x y, pc, X, w₀, M₀, E₀, nb, na, hb, ha, ro, ds₀, ex, fx, Q, s, a, w, E, hnd, hro, hex, hc, h, hi, hf => by
  cases pc <;> simp only [chk, Bool.false_eq_true, Bool.and_eq_true] at hc
  simp only [plainC, Bool.and_eq_true] at hro hex
  obtain ⟨⟨hc, hx⟩, hy⟩ := hc
  simp only [pwp] at h
  split at h
  ·rename_i t ht
   have hv := val_rep hi hc
   rw [ht] at hv
   refine wpIn_cond_split hv.toD.bool_inv (fun e => ?_) (fun e => ?_)
   ·exact code_sound hm x _ hb ha ro ds₀ ex fx Q s a w E (fun q hq => (Bool.and_eq_true_iff.1 (hnd q hq)).1) (hro.imp id And.left) (fun e => (hex e).1) hx (h.1 e) hi hf
   ·exact code_sound hm y _ hb ha ro ds₀ ex fx Q s a w E (fun q hq => (Bool.and_eq_true_iff.1 (hnd q hq)).2) (hro.imp id And.right) (fun e => (hex e).2) hy (h.2 e) hi hf
  ·exact h.elim
 | .block id c, pc, X, w₀, M₀, E₀, nb, na, hb, ha, ro, ds₀, ex, fx, Q, s, a, w, E, hnd, hro, hex, hc, h, hi, hf => by
  cases pc <;> simp only [chk, Bool.false_eq_true, Bool.and_eq_true, beq_iff_eq] at hc
  simp only [plainC] at hro hex
  obtain ⟨rfl, hc⟩ := hc
  simp only [pwp] at h
  refine wpIn_block (wpIn_mono (code_sound hm c _ hb ha ro ds₀ ex fx _ s a w E hnd hro hex hc h hi hf) fun e a' w' hp => ?_)
  cases e with
  | normal => exact hp
  | exit id' =>
   obtain ⟨X', s', E', hx, h1, h2, h3⟩ := hp
   simp only [Exit.inBlock]
   simp only at h1
   split at h1
   ·rename_i hid; rw [if_pos hid]; exact ⟨X', s', E', hx, h1, h2, h3⟩
   ·rename_i hid; rw [if_neg hid]; exact ⟨X', s', E', hx, h1, h2, h3⟩
  | ret => exact hp
  | panic ch => exact hp
  | goto l => exact hp.elim
  | outgrown => exact hp.elim
 | .loop c, pc, X, w₀, M₀, E₀, nb, na, hb, ha, ro, ds₀, ex, fx, Q, s, a, w, E, hnd, hro, hex, hc, h, hi, hf => by
  cases pc <;> simp only [chk, Bool.false_eq_true] at hc
  simp only [plainC, Bool.false_eq_true, or_false] at hro hex
  simp only [pwp] at h
  obtain ⟨I, k, h0, hr⟩ := h
  refine wpIn_loop_ghost (fun k a w => ∃ (X' : Nat → Prop) (s : St) (E : Emb), (∀ b, X b → X' b) ∧ I k s ∧ InS C X' ⟨w₀.heap.size, ds₀, ex, fx⟩ n s a w E ∧ From w₀ M₀ E₀ w s.mem E) k ⟨X, s, E, fun _ h => h, h0, hi, hf⟩ ?_
  rintro k' a' w' ⟨X', s', E', hx, g1, g2, g3⟩
  refine wpIn_mono (code_sound hm c _ hb ha ro ds₀ ex fx _ s' a' w' E' hnd (.inl hro) (fun e => (hex e).elim) hc (hr k' s' g1) g2 g3) fun e a2 w2 hp => ?_
  cases e with
  | normal =>
   obtain ⟨X2, s2, E2, hx2, ⟨k2, s3, q1, q2, q3⟩, h2, h3⟩ := hp
   obtain ⟨E3, r1, r2⟩ := weak_sound h2 h3 hb ha q2
   exact ⟨k2, q1, X2, s3, E3, fun b hb => hx2 b (hx b hb), q3, r1, r2⟩
  | exit id => obtain ⟨X2, s2, E2, q1, q2⟩ := hp; exact ⟨X2, s2, E2, fun b hb => q1 b (hx b hb), q2⟩
  | ret => obtain ⟨X2, s2, E2, q1, q2⟩ := hp; exact ⟨X2, s2, E2, fun b hb => q1 b (hx b hb), q2⟩
  | panic ch => obtain ⟨X2, v2, d2, M2, E2, q1, q2⟩ := hp; exact ⟨X2, v2, d2, M2, E2, fun b hb => q1 b (hx b hb), q2⟩
  | goto l => exact hp.elim
  | outgrown => exact hp.elim
 | .scope c, pc, X, w₀, M₀, E₀, nb, na, hb, ha, ro, ds₀, ex, fx, Q, s, a, w, E, hnd, hro, hex, hc, h, hi, hf => by
  cases pc <;> simp only [chk, Bool.false_eq_true] at hc
  simp only [plainC] at hro hex
  simp only [pwp] at h
  refine wpIn_scope_straight (wpIn_mono (code_sound hm c _ hb ha ro ds₀ ex fx Q s a w E hnd hro hex hc h hi hf) fun e a' w' hp => ?_)
  cases e with
  | goto l => exact hp.elim
  | _ => exact hp
 | .goto l, pc, X, w₀, M₀, E₀, nb, na, hb, ha, ro, ds₀, ex, fx, Q, s, a, w, E, hnd, hro, hex, hc, h, hi, hf => by cases pc <;> simp [chk] at hc
 | .refuse r, pc, X, w₀, M₀, E₀, nb, na, hb, ha, ro, ds₀, ex, fx, Q, s, a, w, E, hnd, hro, hex, hc, h, hi, hf => by cases pc <;> simp [chk] at hc
 | .rangeFunc f ps x y, pc, X, w₀, M₀, E₀, nb, na, hb, ha, ro, ds₀, ex, fx, Q, s, a, w, E, hnd, hro, hex, hc, h, hi, hf => by
  cases pc <;> simp only [chk, Bool.false_eq_true, Bool.and_eq_true, decide_eq_true_eq] at hc
  rename_i f' ps' keys x' y'
  simp only [plainC, Bool.false_eq_true, or_false] at hro hex
  subst hro
  obtain ⟨⟨⟨⟨⟨⟨⟨⟨hcf, rfl⟩, hnd⟩, hpl⟩, hkl⟩, hcx⟩, hcy⟩, hpx⟩, hpy⟩ := hc
  simp only [pwp] at h
  obtain ⟨g, fs, cs, hfv, hcall, hfzb, h⟩ := h
  have hfr := val_rep hi hcf
  rw [hfv] at hfr
  have hfd := hfr.toD
  generalize hfval : a.eval f = fv at hfd
  cases hfd with
  | func hff hfc =>
   rename_i Fs Cs
   obtain ⟨D, hD⟩ : ∃ D, D = w.heap.size := ⟨_, rfl⟩
   obtain ⟨w1, hw1⟩ : ∃ w1, w1 = w.alloc (.deferred (some [])) := ⟨_, rfl⟩
   refine wpIn_rangeFunc ?_
   intro fn _
   obtain ⟨L, hL⟩ : ∃ L : Loop, L = { state := .ready, pending := none, fn := fn, tmps := a.tmps, params := ps, assign := x, body := y, defers := D } := ⟨_, rfl⟩
   have hLt : L.tmps = a.tmps := by rw [hL]
   have hsz : L.tmps.size = n := by rw [hLt, hi.size]
   obtain ⟨cells, hcells⟩ : ∃ cells, cells = (List.range L.tmps.size).map (look s.env) := ⟨_, rfl⟩
   have h := h L (by rw [hL])
   rw [← hcells] at h
   obtain ⟨lp, hlp⟩ : ∃ lp, lp = w.heap.size + 1 := ⟨_, rfl⟩
   have hl1 : Later w w1 := hw1 ▸ Later.alloc w _
   have hs1 : w1.heap.size = w.heap.size + 1 := by rw [hw1]; simp
   have hDat : w1.heap[D]? = some (.deferred (some [])) := by rw [hw1, hD]; exact heap_alloc_new w _
   obtain ⟨X', hX'⟩ : ∃ X' : Nat → Prop, X' = fun b => X b ∨ b = D := ⟨_, rfl⟩
   have hxx : ∀ b, X b → X' b := fun b hb => by rw [hX']; exact .inl hb
   have hkX : ∀ b o, ¬ X b → w.heap[b]? = some o → w1.heap[b]? = some o ∧ ¬ X' b := by
    intro b o hb ho
    refine ⟨hl1.keepS ho, ?_⟩
    rw [hX']
    rintro (hx | rfl)
    ·exact hb hx
    ·have := getElem?_lt ho; omega
   obtain ⟨hS1, hk1⟩ := hi.sim.shift (X' := X') (w' := w1) (fun b hb => hxx b (hi.sim.lowX b hb)) (fun b hb => by
     rw [hX'] at hb
     rcases hb with hb | rfl
     ·have := hi.sim.xlt b hb; omega
     ·omega) (fun b hb => hl1.keep b (hi.sim.xlt b (hi.sim.lowX b hb))) hkX
   have hi1 : InS C X' ⟨w₀.heap.size, ds₀, ex, fx⟩ n s a w1 E :=
    {sim := hS1, env := fun t => (hi.env t).move hk1, size := hi.size, fix := hi.fix
     defers := by
      obtain ⟨ms, hms, ⟨hm1, hm2⟩, hm3⟩ := hi.defers
      exact ⟨ms, hms, ⟨fun d hd => by
       obtain ⟨D', q1, q2, q3, q4⟩ := hm1 d hd
       exact ⟨D', q1, q2, hxx _ q3, hl1.keepS q4⟩, hm2⟩, hm3⟩ }
   obtain ⟨hS2, hf2⟩ := sim_reserve hS1 1
   have hlenE : E.bx.length = s.mem.boxes.length := hi.sim.lenB
   obtain ⟨hS3, hf3⟩ := sim_new (o := .loop L) (id := s.mem.boxes.length) (cs := .loopc { L with state := .ready, pending := none } :: cells) hS2 (by simp) (fun hff' => by
    refine ⟨a.tmps, by rw [hLt], ?_, ?_⟩
    ·rw [heap_alloc_new]; rw [hL]
    ·have : RepP w1 (away X' s.mem E) s.mem E a.tmps.toList cells := by
      rw [hcells, hLt]
      have key : ∀ (m : Nat) (l : List Value), (∀ i v, l[i]? = some v → a.tmps[m + i]? = some v) → RepP w1 (away X' s.mem E) s.mem E l ((List.range' m l.length).map (look s.env)) := by
       intro m l
       induction l generalizing m with
       | nil => intro _; exact .nil
       | cons v l ih =>
        intro hv
        rw [List.length_cons, List.range'_succ, List.map_cons]
        refine .cons ?_ (ih (m + 1) fun i u hu => by
         have := hv (i + 1) u (by simpa using hu)
         rw [← this]; congr 1; omega)
        have h0 := hi1.env m
        have h1 := hv 0 v rfl
        simp only [Nat.add_zero] at h1
        simpa [Act.eval, Array.getD_eq_getD_getElem?, h1] using h0
      have := key 0 a.tmps.toList (fun i v hv => by simpa using hv)
      simpa [List.range_eq_range'] using this
     exact (this.from hf2).from hff')
   have hw2 : (w1.alloc (.loop L)).heap[lp]? = some (.loop L) := by
    have := heap_alloc_new w1 (.loop L)
    rwa [hs1, ← hlp] at this
   have e1 : ({ boxes := (s.mem.boxes ++ List.replicate 1 none).set s.mem.boxes.length (some (.loopc { L with state := .ready, pending := none } :: cells)), fz := s.mem.fz, arrs := s.mem.arrs } : Mem) = loopMem s.mem L .ready none cells [] [] [] := by
    simp [loopMem]
   obtain ⟨E1, hE1⟩ : ∃ E1 : Emb, E1 = { bx := (E.bx ++ List.replicate 1 0).set s.mem.boxes.length w1.heap.size, ar := E.ar } := ⟨_, rfl⟩
   obtain ⟨w2, hw2'⟩ : ∃ w2, w2 = w1.alloc (.loop L) := ⟨_, rfl⟩
   have hSL : Sim C X' w2 (loopMem s.mem L .ready none cells [] [] []) E1 := by rw [← e1, hE1, hw2']; exact hS3
   have hFL : From w s.mem E w2 (loopMem s.mem L .ready none cells [] [] []) E1 := by
    rw [← e1, hE1, hw2']; exact ((hl1.from s.mem E).trans hf2).trans hf3
   have hFL1 : From w1 s.mem E w2 (loopMem s.mem L .ready none cells [] [] []) E1 := by
    rw [← e1, hE1, hw2']; exact hf2.trans hf3
   have hbl : E1.bx[s.mem.boxes.length]? = some lp := by
    rw [hE1, hlp, hs1]; simp [hlenE]
   rw [← hw2'] at hw2
   have hround : ∀ (args : List DV) (K : PV → Mem → Prop) (xb : List (Option (List PV))) (xf : List Nat) (xa : List (Option Arr)), args.length = ps.toList.length → (∀ i ∈ xf, s.mem.boxes.length < i) →
     pwp C nb na x' (fun e s1 => e = .normal ∧ s1.mem = loopMem s.mem L .ready none cells xb xf xa ∧ pwp C nb na y' (roundQ s.mem.boxes.length L K) ⟨s1.env, loopMem s.mem L .busy none cells xb xf xa⟩)
      ⟨ps.toList.zip (args.map .d) ++ keepEnv s.env keys, loopMem s.mem L .ready none cells xb xf xa⟩ →
     SY C s.mem.boxes.length (args.map .d) (loopMem s.mem L .ready none cells xb xf xa) K (fun _ _ => False) := by
    intro args K xb xf xa hlen hxf hp Xy wy Ey vals l hSy hAy hly
    have hfzx : s.mem.boxes.length ∉ xf ++ s.mem.fz := by rw [List.mem_append]; exact fun h => h.elim (fun h => Nat.lt_irrefl _ (hxf _ h)) hfzb
    obtain ⟨l', tmps, q1, q2, q3, q4, q5, _, _⟩ := sim_loop (st' := .busy) (pd' := none) hSy loopMem_get hfzx
    rw [hly] at q1; cases q1
    have hLp : L.params = ps := by rw [hL]
    have hLa : L.assign = x := by rw [hL]
    have hLb : L.body = y := by rw [hL]
    have hvl : vals.length = ps.toList.length := by rw [hAy.length, List.length_map, hlen]
    have hy := run_yield (P := C.P) (args := vals.toArray) q4 (by simp only [hLp]; simpa using hvl)
    refine ⟨_, _, _, _, hy, roundIn_of_wpIn (F := Fence.wide) (n := 0) trivial ?_⟩
    simp only [hLp, hLa, hLb]
    have hfold : ((ps.zip vals.toArray).foldl (fun tmps (x : Nat × Value) => tmps.setIfInBounds x.1 x.2) tmps) = ((ps.toList.zip vals).foldl (fun t (x : Nat × Value) => t.setIfInBounds x.1 x.2) tmps) := by
     rw [← Array.foldl_toList]; simp
    have hir : InS C Xy ⟨wy.heap.size, [], false, none⟩ n ⟨ps.toList.zip (args.map .d) ++ keepEnv s.env keys, loopMem s.mem L .ready none cells xb xf xa⟩
      {tmps := (ps.zip vals.toArray).foldl (fun tmps (x : Nat × Value) => tmps.setIfInBounds x.1 x.2) tmps, defers := [] } wy Ey :=
     {sim := hSy
      size := by simp only [hfold, foldl_set_size, q3, hsz]
      fix := fun _ h => by cases h
      defers := okD_nil
      env := fun t => by
       simp only [Act.eval, hfold]
       refine round_env (R := fun v p => Rep wy (away Xy (loopMem s.mem L .ready none cells xb xf xa) Ey) (loopMem s.mem L .ready none cells xb xf xa) Ey v p) _ _ _ _ hvl (by simpa using hlen) hnd (fun p hp => ?_) (fun i v d hv hd => ?_) fun _ => ?_
       ·have := List.all_eq_true.1 hpl p hp
        rw [q3, hsz]; simpa using this
       ·obtain ⟨v', g1, g2⟩ := hAy.get' i d hd
        rw [hv] at g1; cases g1; exact g2
       ·rcases look_keep_lt (s := s) hkl t with he | ⟨ht, he⟩
        ·rw [he]; exact .dead
        ·rw [he]
         have hc : cells[t]? = some (look s.env t) := by rw [hcells]; simp [hsz, ht]
         obtain ⟨v', g1, g2⟩ := q5.get' t _ hc
         have : tmps.getD t undef = v' := by
          rw [Array.getElem?_toList] at g1
          simp [Array.getD_eq_getD_getElem?, g1]
         rw [this]; exact g2 }
    have hx' := code_sound hm x x' (M₀ := loopMem s.mem L .ready none cells xb xf xa) (nb := (loopMem s.mem L .ready none cells xb xf xa).boxes.length) (na := (loopMem s.mem L .ready none cells xb xf xa).arrs.length) (Nat.le_refl _) (Nat.le_refl _) (some l) [] false none _ _ _ wy Ey (fun _ h => by cases h) (.inr hpx) (fun _ => hpx) hcx (by rw [pwp_nb (nb' := nb) (na' := na) x' hpx]; exact hp) hir (.refl _ _ _)
    refine wpIn_mono (F := Fence.wide.inRound l) hx' fun e a1 w3 hpost => ?_
    cases e with
    | exit id => obtain ⟨_, _, _, _, ⟨he, _⟩, _⟩ := hpost; cases he
    | ret => obtain ⟨_, _, _, _, ⟨he, _⟩, _⟩ := hpost; cases he
    | panic ch => obtain ⟨_, _, _, _, _, _, _, ⟨he, _⟩, _⟩ := hpost; cases he
    | goto t => exact hpost.elim
    | outgrown => exact hpost.elim
    | normal =>
     obtain ⟨X3, ⟨env3, mem3⟩, E3, hx3, ⟨_, hm3, hp2⟩, hi3, hf3'⟩ := hpost
     simp only at hm3
     subst hm3
     obtain ⟨l3, tmps3, u1, u2, u3, u4, u5, u6, u7⟩ := sim_loop (st' := .busy) (pd' := none) hi3.sim loopMem_get hfzx
     rw [(hf3'.bx _ _ loopMem_get).1, hly] at u1; cases u1
     rw [loopMem_set] at u6 u7
     have hbr := run_beginRound (P := C.P) u4 rfl
     refine ⟨_, hbr, ?_⟩
     have hi4 : InS C X3 ⟨wy.heap.size, [], false, none⟩ n ⟨env3, loopMem s.mem L .busy none cells xb xf xa⟩ a1 _ E3 := hi3.from u6 u7
     have hy' := code_sound hm y y' (M₀ := loopMem s.mem L .ready none cells xb xf xa) (nb := (loopMem s.mem L .ready none cells xb xf xa).boxes.length) (na := (loopMem s.mem L .ready none cells xb xf xa).arrs.length) (Nat.le_refl _) (Nat.le_refl _) (some l) [] false none _ _ _ _ E3 (fun _ h => by cases h) (.inr hpy) (fun _ => hpy) hcy (by rw [pwp_nb (nb' := nb) (na' := na) y' hpy]; exact hp2) hi4 (hf3'.trans u7)
     refine wpIn_mono (F := Fence.wide.inRound l) hy' fun e2 a5 w5 hpost2 => ?_
     have fin : ∀ {e : Exit} {e' : Ex} (jump : Option Code) (X5 : Nat → Prop) (s5 : St) (E5 : Emb) (st : LoopState), (∀ b, X3 b → X5 b) → st = (if jump.isNone then LoopState.ready else .done) →
       (∃ cells5, s5.mem.boxes[s.mem.boxes.length]? = some (some (.loopc { L with state := .busy, pending := none } :: cells5)) ∧ s.mem.boxes.length ∉ s5.mem.fz ∧
        K (.d (.bool jump.isNone)) { s5.mem with boxes := s5.mem.boxes.set s.mem.boxes.length (some (.loopc { L with state := st, pending := jump } :: cells5)) }) →
       InS C X5 ⟨wy.heap.size, [], false, none⟩ n s5 a5 w5 E5 → From wy (loopMem s.mem L .ready none cells xb xf xa) Ey w5 s5.mem E5 →
       ∃ v w', (Instr.endRound l jump).run C.P w5 = .ok v w' ∧ Fin C Xy wy (loopMem s.mem L .ready none cells xb xf xa) Ey K (fun _ _ => False) w' (.returned v) := by
      rintro e e' jump X5 s5 E5 st hx5 hst ⟨cells5, v1, v2, v3⟩ hi5 hf5
      subst hst
      obtain ⟨l5, tmps5, t1, t2, t3, t4, t5, t6, t7⟩ := sim_loop (st' := if jump.isNone then LoopState.ready else .done) (pd' := jump) hi5.sim v1 v2
      rw [(hf5.bx _ _ loopMem_get).1, hly] at t1; cases t1
      refine ⟨_, _, run_endRound jump t4, ?_⟩
      refine ⟨_, _, E5, v3, ?_, ?_, .d (.bool _)⟩
      ·exact t6.less (X' := Xy) (fun b hb => hx5 b (hx3 b hb)) hSy.lowX
      ·exact hf5.trans t7
     cases e2 with
     | normal =>
      obtain ⟨X5, s5, E5, hx5, ⟨cells5, v1, v2, v3⟩, hi5, hf5⟩ := hpost2
      exact fin (e := .normal) (e' := .normal) none X5 s5 E5 .ready hx5 rfl ⟨cells5, v1, v2, v3⟩ hi5 hf5
     | ret =>
      obtain ⟨X5, s5, E5, hx5, ⟨cells5, v1, v2, v3⟩, hi5, hf5⟩ := hpost2
      exact fin (e := .normal) (e' := .normal) (some .ret) X5 s5 E5 .done hx5 rfl ⟨cells5, v1, v2, v3⟩ hi5 hf5
     | exit id =>
      obtain ⟨X5, s5, E5, hx5, ⟨cells5, v1, v2, v3⟩, hi5, hf5⟩ := hpost2
      exact fin (e := .normal) (e' := .normal) (some (.exit id)) X5 s5 E5 .done hx5 rfl ⟨cells5, v1, v2, v3⟩ hi5 hf5
     | panic ch => obtain ⟨_, _, _, _, _, _, _, ⟨_, _, _, he⟩, _⟩ := hpost2; exact he.elim
     | goto t => exact hpost2.elim
     | outgrown => exact hpost2.elim
   have hsc := h hround
   have hA : RepP w2 (away X' (loopMem s.mem L .ready none cells [] [] []) E1) (loopMem s.mem L .ready none cells [] [] []) E1 (Fs.toList ++ [.func (.yield lp) #[] #[]] ++ Cs.toList) (fs.map .d ++ [.yref s.mem.boxes.length] ++ cs.map .d) :=
    ((RepP.ofD ((hff.mono hk1).from hFL1)).append (.cons (.yref loopMem_get hbl rfl) .nil)).append (RepP.ofD ((hfc.mono hk1).from hFL1))
   have hcalls := hsc X' w2 E1 _ hSL hA
   refine ⟨lp, [{ target := .collected D, args := #[] }], w2, { target := .fn (.func g) Cs, args := Fs ++ #[.func (.yield lp) #[] #[]] }, w2, g, Fs ++ #[.func (.yield lp) #[] #[]] ++ Cs, w2, ?_, ?_, fun _ _ => trivial, ?_, fun h => by simp [RF, Fence.wide] at h, ?_⟩
   ·have := run_enterLoop_outer (P := C.P) (w := w) fn a.tmps ps x y
    rw [hw2', hw1, hL, hlp, hD]
    exact this
   ·simp only [resolve, hfval]
    simp [go_sem, Deferred.ofValue, Act.eval]
   ·simp [invoke, run_callFunc hcall]
   have hargs : (Fs.toList ++ [Value.func (.yield lp) #[] #[]] ++ Cs.toList).toArray = Fs ++ #[Value.func (.yield lp) #[] #[]] ++ Cs := by simp
   rw [hargs] at hcalls
   refine callsIn_RF (Calls.mono hcalls fun e w3 hfin => ?_)
   cases e with
   | outgrown => exact hfin.elim
   | panicked chain => obtain ⟨_, _, _, _, _, he, _⟩ := hfin; exact he.elim
   | returned v =>
    obtain ⟨p, M3, E3, ⟨st, pd, cells3, v1, v2, v3, v4⟩, hS3', hF3', _⟩ := hfin
    obtain ⟨l3, tmps3, u1, u2, u3, u4, u5, u6, u7⟩ := sim_loop (st' := .exhausted) (pd' := pd) hS3' v1 v3
    rw [(hF3'.bx _ _ loopMem_get).1, hbl] at u1; cases u1
    refine ⟨pd, _, run_endLoop u4 v2, ?_⟩
    have hF4 := (hF3'.trans u7)
    have hi4 : InS C X' ⟨w₀.heap.size, ds₀, ex, fx⟩ n ⟨s.env, _⟩ { a with defers := [{ target := .collected D, args := #[] }] ++ a.defers } _ E3 :=
     {sim := u6
      env := fun t => (hi1.env t).from (hFL1.trans hF4)
      size := hi.size
      fix := hi.fix
      defers := by
       obtain ⟨ms, hms, ⟨hm1, hm2⟩, _⟩ := hi.defers
       obtain ⟨ms', hms', hold, _⟩ := hi1.defers.from hi1.sim (hFL1.trans hF4)
       have hmm : ms' = ms := by simpa using hms'.symm.trans hms
       subst hmm
       refine ⟨_ :: ms', by rw [hms]; rfl, ⟨fun d hd => ?_, ?_⟩, fun e => (hex e).elim⟩
       ·rcases List.mem_cons.1 hd with rfl | hd
        ·refine ⟨D, rfl, by rw [hD]; exact hf.size, by rw [hX']; exact .inr rfl, ?_⟩
         have hno : ¬ owned s.mem E D := fun ho => by have := hi.sim.owned_lt ho; omega
         exact (hFL1.trans hF4).keep D _ hno hDat
        ·exact hold.1 d hd
       ·refine List.pairwise_cons.2 ⟨fun d hd he => ?_, hm2⟩
        obtain ⟨D', g1, g2, g3, g4⟩ := hm1 d hd
        rw [g1] at he
        injection he with he
        have := getElem?_lt g4
        omega }
    have hff4 := (hf.trans hFL).trans hF4
    match pd, v4, hi4, hff4 with
    | none, v4, hi4, hff4 => exact ⟨X', _, E3, hxx, v4, hi4, hff4⟩
    | some .ret, v4, hi4, hff4 => exact wpIn_ret ⟨X', _, E3, hxx, v4, hi4, hff4⟩
    | some (.exit id), v4, hi4, hff4 => exact wpIn_exit ⟨X', _, E3, hxx, v4, hi4, hff4⟩
inductive PRes where
 | tmp (t : Nat)
 | cell (t : Nat) (agg : Bool) (n : Nat)
def okRes (P : Program) : List ResultVar → List PRes → Bool
 | [], [] => true
 | .tmp t :: l, .tmp t' :: l' => t == t' && okRes P l l'
 | .cell t ty :: l, .cell t' agg n :: l' => t == t' && okAgg P ty agg n && okRes P l l'
 | _, _ => false
def runRes : List PRes → St → (List PV → Prop) → Prop
 | [], _, K => K []
 | .tmp t :: l, s, K => runRes l s fun vs => K (look s.env t :: vs)
 | .cell t agg n :: l, s, K => runLoad agg n (look s.env t) s.mem fun v => runRes l s fun vs => K (v :: vs)
def resV : List PV → PV
 | [x] => x
 | vs => mkTup vs
theorem cell_of_load {P : Program} {t : TypeId} {v u : Value} {w : World} (h : (Instr.loadAt t v).run P w = .ok u w) : (do loadVar t (← asAddr v) : Sem Value).run P w = .ok u w := by
 cases v with
 | pointer a =>
  cases a with
  | none => simp [Instr.loadAt, Instr.sureAddr] at h
  | some a => simpa [Instr.loadAt, Instr.sureAddr, asAddr] using h
 | _ => simp [Instr.loadAt, Instr.sureAddr] at h
def resF (tmps : Array Value) : ResultVar → Sem Value
 | .tmp t => pure (tmps.getD t undef)
 | .cell x t => do loadVar t (← asAddr (tmps.getD x undef))
theorem results_eq (fn : Func) (tmps : Array Value) : results fn tmps = (do let vs ← fn.results.mapM (resF tmps); pure (if h : vs.size = 1 then vs[0] else .tuple vs)) := rfl
theorem res_sound {lo : Lo} {n : Nat} {s : St} {a : Act} {w : World} {E : Emb} (hi : InS C X lo n s a w E) : ∀ {l : List ResultVar} {l' : List PRes} {K : List PV → Prop}, okRes C.P l l' = true → runRes l' s K →
  ∃ vs ps, (l.mapM (resF a.tmps) : Sem (List Value)).run C.P w = .ok vs w ∧ K ps ∧ RepP w (away X s.mem E) s.mem E vs ps
 | [], [], K, _, h => ⟨[], [], by simp, h, .nil⟩
 | .tmp t :: l, .tmp t' :: l', K, hok, h => by
  simp only [okRes, Bool.and_eq_true, beq_iff_eq] at hok
  obtain ⟨rfl, hok⟩ := hok
  obtain ⟨vs, ps, h1, h2, h3⟩ := res_sound hi hok h
  refine ⟨a.tmps.getD t undef :: vs, _, ?_, h2, .cons (hi.env t) h3⟩
  simp only [List.mapM_cons, resF, Sem.run_bind, Sem.run_pure, Result.andThen_ok, h1]
 | .cell x t :: l, .cell x' agg m :: l', K, hok, h => by
  simp only [okRes, Bool.and_eq_true, beq_iff_eq] at hok
  obtain ⟨⟨rfl, hag⟩, hok⟩ := hok
  simp only [runRes] at h
  obtain ⟨u, pv, g1, g2, g3⟩ := runLoad_sound hi.sim (hi.env x) hag h
  have g1' := cell_of_load g1
  obtain ⟨vs, ps, h1, h2, h3⟩ := res_sound hi hok g2
  refine ⟨u :: vs, _, ?_, h2, .cons g3 h3⟩
  simp only [List.mapM_cons]
  rw [Sem.run_bind]
  simp only [Act.eval] at g1'
  rw [show resF a.tmps (.cell x t) = (do loadVar t (← asAddr (a.tmps.getD x undef))) from rfl, g1']
  simp only [Result.andThen_ok, Sem.run_bind, h1, Sem.run_pure]
theorem Rep.mkTup {w : World} {O : Nat → Prop} {M : Mem} {E : Emb} {vs : List Value} {ps : List PV} (h : RepP w O M E vs ps) : Rep w O M E (.tuple vs.toArray) (mkTup ps) := by
 unfold Am.mkTup
 split
 ·rename_i ds hd; exact .d (.tup (by simpa using h.allD hd))
 ·exact .tup (by simpa using h)
theorem results_sound {lo : Lo} {n : Nat} {s : St} {a : Act} {w : World} {E : Emb} (hi : InS C X lo n s a w E) {fn : Func} {rs : List PRes} {K : List PV → Prop} (hok : okRes C.P fn.results.toList rs = true) (h : runRes rs s K) :
  ∃ v ps, (results fn a.tmps).run C.P w = .ok v w ∧ K ps ∧ Rep w (away X s.mem E) s.mem E v (resV ps) := by
 obtain ⟨vs, ps, h1, h2, h3⟩ := res_sound hi hok h
 refine ⟨if h : vs.toArray.size = 1 then vs.toArray[0] else .tuple vs.toArray, ps, ?_, h2, ?_⟩
 ·rw [results_eq, Array.mapM_eq_mapM_toList]
  simp only [Sem.run_bind, Sem.run_map, h1, Result.andThen_ok, Sem.run_pure]
 ·have hl := h3.length
  match ps, vs, h3, hl with
  | [], [], h3, _ => exact Rep.mkTup h3
  | [p], [v], h3, _ => cases h3 with | cons h3 _ => exact h3
  | p :: q :: l, v :: u :: m, h3, _ =>
   have : ¬ ((v :: u :: m).toArray.size = 1) := by simp
   rw [dif_neg this]
   exact Rep.mkTup h3
def envOf : Nat → List PV → List (Nat × PV)
 | _, [] => []
 | k, v :: vs => (k, v) :: envOf (k + 1) vs
theorem look_envOf : ∀ {vs : List PV} {k t : Nat}, look (envOf k vs) t = if t < k then .dead else (vs[t - k]?).getD .dead
 | [], k, t => by simp [envOf, look]
 | v :: vs, k, t => by
  simp only [envOf, look]
  by_cases h : k = t
  ·subst h; simp
  ·have : (k == t) = false := by simp [h]
   simp only [this, cond_false, look_envOf]
   by_cases h2 : t < k
   ·rw [if_pos (by omega), if_pos h2]
   ·rw [if_neg (by omega), if_neg h2]
    have : t - k = (t - (k + 1)) + 1 := by omega
    rw [this]; simp
def chkFn (P : Program) (f : FuncId) (nargs : Nat) (pc : PCode) (rs : List PRes) : Bool :=
 match P.funcs[f]? with
 | some fn => match fn.body with
  | some code => decide (nargs ≤ fn.ntmps) && chk P fn.ntmps code pc && okRes P fn.results.toList rs
  | none => false
 | none => false
def endQ (rs : List PRes) (K : PV → Mem → Prop) (KP : DV → Mem → Prop) : Ex → St → Prop
 | .normal, s => runRes rs s fun vs => K (resV vs) s.mem
 | .ret, s => runRes rs s fun vs => K (resV vs) s.mem
 | .panic d, s => KP d s.mem
 | .exit _, _ => False
structure Shut (ds : List Deferred) (w w' : World) : Prop where
 os : w'.os = w.os
 tape : w'.tape = w.tape
 output : w'.output = w.output
 size : w'.heap.size = w.heap.size
 keep : ∀ b, (∀ d ∈ ds, d.target ≠ .collected b) → w'.heap[b]? = w.heap[b]?
theorem leaves_marks {P : Program} {fn : Func} {tmps : Array Value} {R : Ending → World → Prop} {lo : Nat} {ds₀ : List Deferred} {u : FrameMode} (hu : u ≠ .run) : ∀ {ds : List Deferred} {w : World}, okM lo X ds w →
  (∀ w', Shut ds w w' → LeavesInM Fence.wide 0 P fn tmps R ds₀ u w') → LeavesInM Fence.wide 0 P fn tmps R (ds ++ ds₀) u w
 | [], w, _, h => h w ⟨rfl, rfl, rfl, rfl, fun _ _ => rfl⟩
 | d :: ds, w, hd, h => by
  obtain ⟨h1, h2⟩ := hd
  rw [List.pairwise_cons] at h2
  obtain ⟨D, g1, g2, g3, g4⟩ := h1 d (by simp)
  refine ⟨hu, .inl ⟨D, w.putObj D (.deferred none), g1, run_takeDeferred g4, ?_⟩⟩
  have hne : ∀ d' ∈ ds, ∀ D', d'.target = .collected D' → D' ≠ D := by
   rintro d' hd' D' he rfl
   exact h2.1 d' hd' (by rw [g1, he])
  refine leaves_marks hu (lo := lo) ⟨fun d' hd' => ?_, h2.2⟩ fun w' hs => h w' ?_
  ·obtain ⟨D', q1, q2, q3, q4⟩ := h1 d' (by simp [hd'])
   exact ⟨D', q1, q2, q3, by rw [World.putObj_heap_other (hne d' hd' D' q1)]; exact q4⟩
  ·refine ⟨hs.os, hs.tape, hs.output, by rw [hs.size]; simp, fun b hb => ?_⟩
   rw [hs.keep b fun d' hd' => hb d' (by simp [hd']), World.putObj_heap_other]
   rintro rfl
   exact hb d (by simp) g1
theorem shut_sim {X' : Nat → Prop} {w w' w2 : World} {M M' : Mem} {E E' : Emb} {ds : List Deferred} (h : Sim C X' w' M' E') (hlow : ∀ b, C.low b → b < w.heap.size) (hf : From w M E w' M' E') (hd : okM w.heap.size X' ds w') (hs : Shut ds w' w2) :
  Sim C X' w2 M' E' ∧ From w M E w2 M' E' ∧ (∀ b o, ¬ away X' M' E' b → w'.heap[b]? = some o → w2.heap[b]? = some o ∧ ¬ away X' M' E' b) := by
 have hsame : ∀ b, (¬ X' b ∨ b < w.heap.size) → w2.heap[b]? = w'.heap[b]? := by
  intro b hb
  refine hs.keep b fun d hd' he => ?_
  obtain ⟨D, g1, g2, g3, _⟩ := hd.1 d hd'
  rw [g1] at he
  injection he with he
  subst he
  rcases hb with hb | hb
  ·exact hb g3
  ·omega
 obtain ⟨s1, s2⟩ := h.shift (X' := X') (w' := w2) h.lowX (fun b hb => by rw [hs.size]; exact h.xlt b hb) (fun b hb => hsame b (.inr (hlow b hb))) fun b o hb ho => ⟨by rw [hsame b (.inl hb)]; exact ho, hb⟩
 refine ⟨s1, ?_, s2⟩
 exact
  {os := hs.os.trans hf.os, tape := hs.tape.trans hf.tape, output := hs.output.trans hf.output, size := by rw [hs.size]; exact hf.size,
   keep := fun b o hb ho => by rw [hsame b (.inr (getElem?_lt ho))]; exact hf.keep b o hb ho,
   own := hf.own, lenB := hf.lenB, bx := hf.bx, lenA := hf.lenA, ar := hf.ar }
theorem sc_of_pwp (hm : C.P.follows .mixedOrders = true) {f : FuncId} {args : List PV} {M : Mem} {K : PV → Mem → Prop} {KP : DV → Mem → Prop} {pc : PCode} {rs : List PRes} {nargs : Nat} (hn : args.length = nargs) (hc : chkFn C.P f nargs pc rs = true)
  (h : pwp C M.boxes.length M.arrs.length pc (endQ rs K KP) ⟨envOf 0 args, M⟩) : SC C f args M K KP := by
 subst hn
 intro X w E vals hS hA
 unfold chkFn at hc
 split at hc
 ·rename_i fn hfn
  split at hc
  ·rename_i code hcode
   simp only [Bool.and_eq_true, decide_eq_true_eq] at hc
   obtain ⟨⟨hna, hchk⟩, hres⟩ := hc
   have hvl : vals.length = args.length := hA.length
   have hi : InS C X ⟨w.heap.size, [], false, none⟩ fn.ntmps ⟨envOf 0 args, M⟩ { tmps := vals.toArray ++ Array.replicate (fn.ntmps - vals.toArray.size) undef, defers := [] } w E :=
    {sim := hS
     size := by simp; omega
     defers := okD_nil
     fix := fun _ h => by cases h
     env := fun t => by
      simp only [look_envOf, Nat.not_lt_zero, if_false, Nat.sub_zero]
      cases ht : args[t]? with
      | none => exact .dead
      | some p =>
       obtain ⟨v, hv, hr⟩ := hA.get' t p ht
       have hlt : t < vals.length := (List.getElem?_eq_some_iff.1 hv).1
       have : ({ tmps := vals.toArray ++ Array.replicate (fn.ntmps - vals.toArray.size) undef, defers := [] } : Act).eval (.tmp t) = v := by
        simp only [Act.eval, Array.getD_eq_getD_getElem?]
        rw [Array.getElem?_append_left (by simpa using hlt)]
        simp [hv]
       rw [this]
       exact hr }
   refine (callsIn_wide (n := 0)).1 (callsIn_of_wp_marks (F := Fence.wide) hfn hcode trivial ?_)
   refine wpIn_mono (F := RF none) (code_sound hm code pc (Nat.le_refl _) (Nat.le_refl _) none [] false none _ _ _ w E (fun _ h => by cases h) (.inl rfl) (fun e => by cases e) hchk h hi (.refl _ _ _)) fun e a' w' hp => ?_
   have hlow : ∀ b, C.low b → b < w.heap.size := fun b hb => hS.xlt b (hS.lowX b hb)
   have fin : ∀ (s : St) (X' : Nat → Prop) (E' : Emb), (∀ b, X b → X' b) → runRes rs s (fun vs => K (resV vs) s.mem) → InS C X' ⟨w.heap.size, [], false, none⟩ fn.ntmps s a' w' E' → From w M E w' s.mem E' →
     LeavesInM Fence.wide 0 C.P fn a'.tmps (fun e w' => Fin C X w M E K KP w' e) a'.defers .returning w' := by
    intro s X' E' hx h1 h2 h3
    obtain ⟨ms, hms, hmk, _⟩ := h2.defers
    rw [hms]
    refine leaves_marks (by simp) hmk fun w2 hsh => ?_
    obtain ⟨q1, q2, q3⟩ := shut_sim h2.sim hlow h3 hmk hsh
    have hi2 : InS C X' ⟨w.heap.size, [], false, none⟩ fn.ntmps s { a' with defers := [] } w2 E' := { sim := q1, env := fun t => (h2.env t).move q3, size := h2.size, defers := okD_nil, fix := fun _ h => by cases h }
    obtain ⟨v, ps, g1, g2, g3⟩ := results_sound hi2 hres h1
    exact ⟨v, g1, _, s.mem, E', g2, q1.less hx hS.lowX, q2, g3.less hx⟩
   cases e with
   | normal =>
    obtain ⟨X', s, E', hx, h1, h2, h3⟩ := hp
    exact fin s X' E' hx h1 h2 h3
   | ret =>
    obtain ⟨X', s, E', hx, h1, h2, h3⟩ := hp
    exact fin s X' E' hx h1 h2 h3
   | panic ch =>
    obtain ⟨X', v, d, M', E', hx, rfl, h1, h2, h3, h4, h5, _⟩ := hp
    obtain ⟨ms, hms, hmk, _⟩ := h5
    show LeavesInM _ _ _ _ _ _ a'.defers _ _
    rw [hms]
    refine leaves_marks (by simp) hmk fun w2 hsh => ?_
    obtain ⟨q1, q2, q3⟩ := shut_sim h2 hlow h3 hmk hsh
    exact ⟨v, d, M', E', rfl, h1, q1.less hx hS.lowX, q2, (h4.mono q3).weaken fun b hb => hb.imp (hx b) id⟩
   | exit id => obtain ⟨X', s, E', hx, h1, _⟩ := hp; exact h1.elim
   | goto l => exact hp.elim
   | outgrown => exact hp.elim
  ·cases hc
 ·cases hc
end
end Go.Am
