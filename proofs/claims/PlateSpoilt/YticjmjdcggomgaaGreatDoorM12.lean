/-
  Part 12 of the proof of a law of plates: an abstract machine over the model, contracts of functions, plain laws.
  Conditions: none.
-/
import Derived.Test.YticjmjdcggomgaaGreatDoorM11
import Derived.ProofKit
import Derived.Deep.Slices
set_option linter.all false
namespace Go.Am
def mkRow (M : Mem) (q : Nat × Nat) : Arr := match M.arrs[q.1]? with | some (some A) => ⟨A.sz, A.elems.drop q.2, 0, A.st⟩ | _ => default
def mkPlace (M : Mem) (E : Emb) (q : Nat × Nat) : Option (Nat × Nat × Nat) := match M.arrs[q.1]?, E.ar[q.1]? with | some (some A), some (some (blk, o, e)) => some (blk, o + q.2 * A.sz, e) | _, _ => none
def liveRow (M : Mem) (q : Nat × Nat) : Bool := match M.arrs[q.1]? with | some (some A) => decide (q.2 ≤ A.elems.length) | _ => false
def renAt : List (Nat × Nat) → Nat → Nat → Nat → Option Nat
 | [], _, _, _ => none
 | (a, b) :: l, i, k, s => bif a == k && b == s then some i else renAt l (i + 1) k s
def ren0 (M : Mem) (L : List (Nat × Nat)) : PV → PV
 | .d x => .d x
 | .tsl k ver skip => match M.row k ver, renAt L 0 k skip with | some _, some i => .tsl i 0 0 | _, _ => .dead
 | _ => .dead
def ren1 (M : Mem) (L : List (Nat × Nat)) : PV → PV
 | .agg cs => .agg (cs.map (ren0 M L))
 | p => ren0 M L p
def ren (M : Mem) (L : List (Nat × Nat)) : PV → PV
 | .agg cs => .agg (cs.map (ren0 M L))
 | .tup cs => .tup (cs.map (ren1 M L))
 | p => ren0 M L p
def okSel (M : Mem) (L : List (Nat × Nat)) : Prop := (∀ q ∈ L, liveRow M q = true) ∧ (L.map (·.1)).Nodup
theorem renAt_get : ∀ {L : List (Nat × Nat)} {i k s j : Nat}, renAt L i k s = some j → i ≤ j ∧ L[j - i]? = some (k, s)
 | [], i, k, s, j, h => by simp [renAt] at h
 | (a, b) :: l, i, k, s, j, h => by
  simp only [renAt] at h
  cases hc : (a == k && b == s) with
  | true =>
   rw [hc] at h
   simp only [cond_true, Option.some.injEq] at h
   subst h
   simp only [Bool.and_eq_true, beq_iff_eq] at hc
   obtain ⟨rfl, rfl⟩ := hc
   simp
  | false =>
   rw [hc] at h
   simp only [cond_false] at h
   obtain ⟨h1, h2⟩ := renAt_get h
   refine ⟨by omega, ?_⟩
   rw [show j - i = (j - (i + 1)) + 1 by omega]
   simpa using h2
section
variable {C : Ctx} {X : Nat → Prop} {w : World} {M : Mem} {E : Emb}
theorem live_get {q : Nat × Nat} (h : liveRow M q = true) : ∃ A, M.arrs[q.1]? = some (some A) ∧ q.2 ≤ A.elems.length ∧ mkRow M q = ⟨A.sz, A.elems.drop q.2, 0, A.st⟩ := by
 unfold liveRow at h
 split at h
 ·rename_i A hA
  simp only [decide_eq_true_eq] at h
  exact ⟨A, hA, h, by simp [mkRow, hA]⟩
 ·cases h
theorem place_get {q : Nat × Nat} {blk o e : Nat} (h : mkPlace M E q = some (blk, o, e)) : ∃ A o', M.arrs[q.1]? = some (some A) ∧ E.ar[q.1]? = some (some (blk, o', e)) ∧ o = o' + q.2 * A.sz := by
 unfold mkPlace at h
 split at h
 ·rename_i A blk' o' e' hA hE
  simp only [Option.some.injEq, Prod.mk.injEq] at h
  obtain ⟨rfl, rfl, rfl⟩ := h
  exact ⟨A, o', hA, hE, rfl⟩
 ·cases h
theorem sel_row {L : List (Nat × Nat)} {i : Nat} {B : Arr} (hL : okSel M L) (h : (rowsOf (L.map (mkRow M))).arrs[i]? = some (some B)) : ∃ q A, L[i]? = some q ∧ M.arrs[q.1]? = some (some A) ∧ q.2 ≤ A.elems.length ∧ B = ⟨A.sz, A.elems.drop q.2, 0, A.st⟩ := by
 simp only [rowsOf, List.map_map, List.getElem?_map, Option.map_eq_some_iff, Function.comp] at h
 obtain ⟨q, hq, he⟩ := h
 simp only [Option.some.injEq] at he
 obtain ⟨A, h1, h2, h3⟩ := live_get (hL.1 q (List.mem_of_getElem? hq))
 exact ⟨q, A, hq, h1, h2, by rw [← he, h3]⟩
theorem sel_place {L : List (Nat × Nat)} {i : Nat} {q : Nat × Nat} (hq : L[i]? = some q) : (L.map (mkPlace M E))[i]? = some (mkPlace M E q) := by
 simp [hq]
theorem owned_sel {L : List (Nat × Nat)} (hL : okSel M L) {b : Nat} (h : owned (rowsOf (L.map (mkRow M))) ⟨[], L.map (mkPlace M E)⟩ b) : owned M E b := by
 rcases h with ⟨i, cs, h1, _⟩ | ⟨i, B, o, e, h1, h2, h3⟩
 ·simp [rowsOf] at h1
 ·obtain ⟨q, A, g1, g2, g3, rfl⟩ := sel_row hL h1
  simp only [sel_place g1, Option.some.injEq] at h3
  obtain ⟨A', o', q1, q2, _⟩ := place_get h3
  rw [g2] at q1; cases q1
  exact .inr ⟨q.1, A, o', e, g2, h2, q2⟩
theorem sim_sel {L : List (Nat × Nat)} (h : Sim C X w M E) (hL : okSel M L) : Sim C X w (rowsOf (L.map (mkRow M))) ⟨[], L.map (mkPlace M E)⟩ := by
 have haw : ∀ b, away X (rowsOf (L.map (mkRow M))) ⟨[], L.map (mkPlace M E)⟩ b → away X M E b := fun b hb => hb.imp id (owned_sel hL)
 exact
  {glob := h.glob, lowX := h.lowX, xlt := h.xlt
   lenB := rfl
   lenA := by simp [rowsOf]
   box := fun b cs hb => by simp [rowsOf] at hb
   arr := fun i B hB => by
    obtain ⟨q, A, g1, g2, g3, rfl⟩ := sel_row hL hB
    obtain ⟨s1, s2, s3, s4⟩ := h.arr q.1 A g2
    refine ⟨s1, fun x hx => s2 x (List.mem_of_mem_drop hx), fun hs => ?_, fun blk o e he => ?_⟩
    ·obtain ⟨⟨blk, o, e⟩, hq⟩ := s3 hs
     exact ⟨(blk, o + q.2 * A.sz, e), by rw [sel_place g1]; simp [mkPlace, g2, hq]⟩
    ·simp only [sel_place g1, Option.some.injEq] at he
     obtain ⟨A', o', q1, q2, rfl⟩ := place_get he
     rw [g2] at q1; cases q1
     obtain ⟨r1, vs, T, r2, r3, r4, r5⟩ := s4 blk o' e q2
     refine ⟨r1, vs, T, r2, ?_, r4, ?_⟩
     ·simp only [List.length_drop]
      have : q.2 * A.sz + (A.elems.length - q.2) * A.sz = A.elems.length * A.sz := by rw [← Nat.add_mul]; congr 1; omega
      omega
     ·simp only [List.length_drop]
      exact (row_drop s2 r5).weaken haw
   bb := fun b b' cs cs' blk h1 => by simp [rowsOf] at h1
   aa := fun i i' B B' blk o e o' e' h1 h2 h3 h4 => by
    obtain ⟨q, A, g1, g2, g3, rfl⟩ := sel_row hL h1
    obtain ⟨q', A', g1', g2', g3', rfl⟩ := sel_row hL h2
    simp only [sel_place g1, Option.some.injEq] at h3
    simp only [sel_place g1', Option.some.injEq] at h4
    obtain ⟨_, p1, _, p2, _⟩ := place_get h3
    obtain ⟨_, p1', _, p2', _⟩ := place_get h4
    have hk := h.aa q.1 q'.1 A A' blk p1 e p1' e' g2 g2' p2 p2'
    have hi : i < (L.map (·.1)).length := by simpa using (List.getElem?_eq_some_iff.1 g1).1
    refine (List.getElem?_inj hi hL.2).1 ?_
    simp [g1, g1', hk]
   ba := fun b i cs B blk o e h1 => by simp [rowsOf] at h1 }
theorem from_sel {w₀ : World} {L : List (Nat × Nat)} (hf : From w₀ noMem ⟨[], []⟩ w M E) (hL : okSel M L) : From w₀ noMem ⟨[], []⟩ w (rowsOf (L.map (mkRow M))) ⟨[], L.map (mkPlace M E)⟩ := {
 os := hf.os
 tape := hf.tape
 output := hf.output
 size := hf.size
 keep := hf.keep
 own := fun b hb => hf.own b (owned_sel hL hb)
 lenB := Nat.le_refl _
 bx := fun b cs hb => by simp [noMem] at hb
 lenA := Nat.zero_le _
 ar := fun k A' hk => by simp [noMem] at hk }
theorem rep_ren0 {L : List (Nat × Nat)} (h : Sim C X w M E) (hL : okSel M L) {v : Value} {p : PV} (hr : Rep w (away X M E) M E v p) :
  Rep w (away X (rowsOf (L.map (mkRow M))) ⟨[], L.map (mkPlace M E)⟩) (rowsOf (L.map (mkRow M))) ⟨[], L.map (mkPlace M E)⟩ v (ren0 M L p) := by
 have haw : ∀ b, away X (rowsOf (L.map (mkRow M))) ⟨[], L.map (mkPlace M E)⟩ b → away X M E b := fun b hb => hb.imp id (owned_sel hL)
 cases p with
 | d x => exact .d (hr.toD.weaken haw)
 | tsl k ver skip =>
  simp only [ren0]
  split
  ·rename_i A i hA hi
   obtain ⟨_, hget⟩ := renAt_get hi
   simp only [Nat.sub_zero] at hget
   obtain ⟨t1, t2, t3, t4, t5⟩ := tsl_at h hr hA
   obtain ⟨a, cap, hv⟩ := hr.slice_inv hA
   subst hv
   have hrow : mkRow M (k, skip) = ⟨A.sz, A.elems.drop skip, 0, A.st⟩ := by simp [mkRow, t1]
   have hlt : i < L.length := (List.getElem?_eq_some_iff.1 hget).1
   refine .tsl (by simpa [rowsOf] using hlt) fun B hB => ?_
   have hB' : B = ⟨A.sz, A.elems.drop skip, 0, A.st⟩ := by
    simp only [rowsOf, List.map_map, List.getElem?_map, hget, Option.map_some, Function.comp, Option.some.injEq] at hB
    rw [← hB, hrow]
   subst hB'
   refine ⟨Nat.le_refl _, fun _ => ⟨_, sel_place hget, Nat.zero_le _, ?_⟩⟩
   rcases t5 with ⟨blk, o, e, vs, T, cap', p1, p2, p3, p4, p5, p6⟩ | ⟨p1, p2, hd⟩
   ·have hp : mkPlace M E (k, skip) = some (blk, o + skip * A.sz, e) := by simp [mkPlace, t1, p1]
    rw [hp]
    simp only
    rcases p6 with ⟨hh, p7, p8⟩ | ⟨p7, _, a', hh⟩
    ·cases hh
     refine .inl ⟨cap, by simp, by simpa using p7, ?_⟩
     simp only [Nat.zero_add]; rw [Nat.add_assoc, ← Nat.add_mul]; exact p8
    ·refine .inr ⟨by simp; omega, a', ?_⟩
     exact hh
   ·have hp : mkPlace M E (k, skip) = none := by simp [mkPlace, t1, p1]
    rw [hp]
    simpa using hd.weaken haw
  ·exact .dead
 | _ => exact .dead
theorem rep_ren0L {L : List (Nat × Nat)} (h : Sim C X w M E) (hL : okSel M L) : ∀ {vs : List Value} {ps : List PV}, RepP w (away X M E) M E vs ps →
  RepP w (away X (rowsOf (L.map (mkRow M))) ⟨[], L.map (mkPlace M E)⟩) (rowsOf (L.map (mkRow M))) ⟨[], L.map (mkPlace M E)⟩ vs (ps.map (ren0 M L))
 | _, _, .nil => .nil
 | _, _, .cons h1 t => .cons (rep_ren0 h hL h1) (rep_ren0L h hL t)
theorem rep_ren1 {L : List (Nat × Nat)} (h : Sim C X w M E) (hL : okSel M L) {v : Value} {p : PV} (hr : Rep w (away X M E) M E v p) :
  Rep w (away X (rowsOf (L.map (mkRow M))) ⟨[], L.map (mkPlace M E)⟩) (rowsOf (L.map (mkRow M))) ⟨[], L.map (mkPlace M E)⟩ v (ren1 M L p) := by
 cases p with
 | agg cs => cases hr with | agg hh => exact .agg (rep_ren0L h hL hh)
 | _ => exact rep_ren0 h hL hr
theorem rep_ren1L {L : List (Nat × Nat)} (h : Sim C X w M E) (hL : okSel M L) : ∀ {vs : List Value} {ps : List PV}, RepP w (away X M E) M E vs ps →
  RepP w (away X (rowsOf (L.map (mkRow M))) ⟨[], L.map (mkPlace M E)⟩) (rowsOf (L.map (mkRow M))) ⟨[], L.map (mkPlace M E)⟩ vs (ps.map (ren1 M L))
 | _, _, .nil => .nil
 | _, _, .cons h1 t => .cons (rep_ren1 h hL h1) (rep_ren1L h hL t)
theorem rep_ren {L : List (Nat × Nat)} (h : Sim C X w M E) (hL : okSel M L) {v : Value} {p : PV} (hr : Rep w (away X M E) M E v p) :
  Rep w (away X (rowsOf (L.map (mkRow M))) ⟨[], L.map (mkPlace M E)⟩) (rowsOf (L.map (mkRow M))) ⟨[], L.map (mkPlace M E)⟩ v (ren M L p) := by
 cases p with
 | agg cs => cases hr with | agg hh => exact .agg (rep_ren0L h hL hh)
 | tup cs => cases hr with | tup hh => exact .tup (rep_ren1L h hL hh)
 | _ => exact rep_ren0 h hL hr
theorem sim_none {w : World} (hG : C.G w) (hl : ∀ b, C.low b → X b) (hx : ∀ b, X b → b < w.heap.size) : Sim C X w noMem ⟨[], []⟩ := {
 glob := hG
 lowX := hl
 xlt := hx
 lenB := rfl
 lenA := rfl
 box := fun b cs h => by simp [noMem] at h
 arr := fun k A h => by simp [noMem] at h
 bb := fun b b' cs cs' blk h => by simp [noMem] at h
 aa := fun k k' A A' blk o e o' e' h => by simp [noMem] at h
 ba := fun b k cs A blk o e h => by simp [noMem] at h }
theorem away_none : ∀ b, away X noMem ⟨[], []⟩ b → X b := by
 rintro b (h | ⟨i, cs, h, _⟩ | ⟨k, A, o, e, h, _⟩)
 ·exact h
 ·simp [noMem] at h
 ·simp [noMem] at h
theorem pure_of_sc {f : FuncId} {ds : List DV} {r : PV} {as : List Arr} (h : SC C f (ds.map .d) noMem (fun p M => ∃ L, okSel M L ∧ ren M L p = r ∧ L.map (mkRow M) = as) (fun _ _ => False)) : Pure C f ds r as := by
 intro X w vals hG hl hx hr
 refine (h X w ⟨[], []⟩ vals (sim_none hG hl hx) (RepP.ofD (hr.weaken away_none))).mono fun e w' he => ?_
 cases e with
 | returned v =>
  obtain ⟨p, M', E', ⟨L, hL, rfl, rfl⟩, h2, h3, h4⟩ := he
  exact ⟨v, _, rfl, sim_sel h2 hL, from_sel h3 hL, rep_ren h2 hL h4⟩
 | panicked c =>
  obtain ⟨v, d, M', E', _, hh, _⟩ := he
  exact hh.elim
 | outgrown => exact he.elim
theorem pureP_of_sc {f : FuncId} {ds : List DV} {d : DV} (h : SC C f (ds.map .d) noMem (fun _ _ => False) (fun d' _ => d' = d)) : PureP C f ds d := by
 intro X w vals hG hl hx hr
 refine (h X w ⟨[], []⟩ vals (sim_none hG hl hx) (RepP.ofD (hr.weaken away_none))).mono fun e w' he => ?_
 cases e with
 | returned v =>
  obtain ⟨p, M', E', hh, _⟩ := he
  exact hh.elim
 | panicked c =>
  obtain ⟨v, d', M', E', rfl, rfl, h2, h3, h4⟩ := he
  refine ⟨v, rfl, ?_, h4.weaken fun b hb => .inl hb⟩
  exact
   {os := h3.os, tape := h3.tape, output := h3.output, size := h3.size, keep := h3.keep, own := fun b hb => absurd hb (by rintro (⟨i, cs, h, _⟩ | ⟨k, A, o, e, h, _⟩) <;> simp [noMem] at h),
    lenB := Nat.le_refl _, bx := fun b cs hb => by simp [noMem] at hb,
    lenA := Nat.le_refl _, ar := fun k A' hk => by simp [noMem] at hk }
 | outgrown => exact he.elim
theorem pure_of_pwp (hm : C.P.follows .mixedOrders = true) {f : FuncId} {ds : List DV} {r : PV} {as : List Arr} {pc : PCode} {rs : List PRes} {nargs : Nat} (hn : (ds.map PV.d).length = nargs) (hc : chkFn C.P f nargs pc rs = true)
  (h : pwp C 0 0 pc (endQ rs (fun p M => ∃ L, okSel M L ∧ ren M L p = r ∧ L.map (mkRow M) = as) (fun _ _ => False)) ⟨envOf 0 (ds.map .d), noMem⟩) : Pure C f ds r as :=
 pure_of_sc (sc_of_pwp hm hn hc h)
theorem pure_of_pwp_d (hm : C.P.follows .mixedOrders = true) {f : FuncId} {ds : List DV} {x : DV} {pc : PCode} {rs : List PRes} {nargs : Nat} (hn : (ds.map PV.d).length = nargs) (hc : chkFn C.P f nargs pc rs = true)
  (h : pwp C 0 0 pc (endQ rs (fun p _ => p = .d x) (fun _ _ => False)) ⟨envOf 0 (ds.map .d), noMem⟩) : Pure C f ds (.d x) [] := by
 refine pure_of_sc (SC.mono (sc_of_pwp hm hn hc h) fun v M' hv => ⟨[], ⟨fun q hq => (by cases hq), List.nodup_nil⟩, ?_, rfl⟩)
 subst hv
 rfl
end
end Go.Am
namespace Go.Am
section
variable {C : Ctx} {nb na : Nat} {Q : Ex → St → Prop} {env : List (Nat × PV)} {bs : List (Option (List PV))} {fz : List Nat} {as : List (Option Arr)} {s : St}
theorem pwp_skip : pwp C nb na .skip Q s = Q .normal s := propext ⟨id, id⟩
theorem pwp_label {l : Nat} : pwp C nb na (.label l) Q s = Q .normal s := propext ⟨id, id⟩
theorem pwp_ret : pwp C nb na .ret Q s = Q .ret s := propext ⟨id, id⟩
theorem pwp_exit {i : Nat} : pwp C nb na (.exit i) Q s = Q (.exit i) s := propext ⟨id, id⟩
theorem pwp_scope {b : PCode} : pwp C nb na (.scope b) Q s = pwp C nb na b Q s := propext ⟨id, id⟩
def seqQ (C : Ctx) (nb na : Nat) (b : PCode) (Q : Ex → St → Prop) : Ex → St → Prop := fun e s' => match e with | .normal => pwp C nb na b Q s' | e => Q e s'
def blockQ (id : Nat) (Q : Ex → St → Prop) : Ex → St → Prop := fun e s' => match e with | .exit id' => if id' = id then Q .normal s' else Q (.exit id') s' | e => Q e s'
def loopQ (nb na : Nat) (I : Nat → St → Prop) (n : Nat) (Q : Ex → St → Prop) : Ex → St → Prop := fun e s' => match e with | .normal => ∃ n' s'', n' < n ∧ Weak nb na s' s'' ∧ I n' s'' | e => Q e s'
theorem pwp_seq {a b : PCode} : pwp C nb na (.seq a b) Q s = pwp C nb na a (seqQ C nb na b Q) s := propext ⟨id, id⟩
theorem seqQ_normal {b : PCode} : seqQ C nb na b Q .normal s = pwp C nb na b Q s := propext ⟨id, id⟩
theorem seqQ_ret {b : PCode} : seqQ C nb na b Q .ret s = Q .ret s := propext ⟨id, id⟩
theorem seqQ_exit {b : PCode} {i : Nat} : seqQ C nb na b Q (.exit i) s = Q (.exit i) s := propext ⟨id, id⟩
theorem seqQ_panic {b : PCode} {d : DV} : seqQ C nb na b Q (.panic d) s = Q (.panic d) s := propext ⟨id, id⟩
theorem pwp_block {i : Nat} {b : PCode} : pwp C nb na (.block i b) Q s = pwp C nb na b (blockQ i Q) s := propext ⟨id, id⟩
theorem blockQ_normal {i : Nat} : blockQ i Q .normal s = Q .normal s := propext ⟨id, id⟩
theorem blockQ_ret {i : Nat} : blockQ i Q .ret s = Q .ret s := propext ⟨id, id⟩
theorem blockQ_panic {i : Nat} {d : DV} : blockQ i Q (.panic d) s = Q (.panic d) s := propext ⟨id, id⟩
theorem blockQ_exit {i j : Nat} : blockQ i Q (.exit j) s = if j = i then Q .normal s else Q (.exit j) s := propext ⟨id, id⟩
theorem blockQ_hit {i j : Nat} (h : (j == i) = true) : blockQ i Q (.exit j) s = Q .normal s := by rw [blockQ_exit, if_pos (by simpa using h)]
theorem blockQ_miss {i j : Nat} (h : (j == i) = false) : blockQ i Q (.exit j) s = Q (.exit j) s := by rw [blockQ_exit, if_neg (by simpa using h)]
theorem loopQ_normal {I : Nat → St → Prop} {n : Nat} : loopQ nb na I n Q .normal s = ∃ n' s'', n' < n ∧ Weak nb na s s'' ∧ I n' s'' := propext ⟨id, id⟩
theorem loopQ_ret {I : Nat → St → Prop} {n : Nat} : loopQ nb na I n Q .ret s = Q .ret s := propext ⟨id, id⟩
theorem loopQ_exit {I : Nat → St → Prop} {n i : Nat} : loopQ nb na I n Q (.exit i) s = Q (.exit i) s := propext ⟨id, id⟩
theorem loopQ_panic {I : Nat → St → Prop} {n : Nat} {d : DV} : loopQ nb na I n Q (.panic d) s = Q (.panic d) s := propext ⟨id, id⟩
theorem pwp_loop {b : PCode} (I : Nat → St → Prop) (n : Nat) (h0 : I n s) (hr : ∀ n s, I n s → pwp C nb na b (loopQ nb na I n Q) s) : pwp C nb na (.loop b) Q s := ⟨I, n, h0, hr⟩
theorem pwp_cond {x : Bool} {c : Opd} {a b : PCode} (h : s.val c = .d (.bool x)) : pwp C nb na (.cond c a b) Q s = ((x = true → pwp C nb na a Q s) ∧ (x = false → pwp C nb na b Q s)) := by
 simp only [pwp, h]
theorem pwp_cond_t {t : Nat} {a b : PCode} {m : Mem} (h : look env t = .d (.bool true)) : pwp C nb na (.cond (.t t) a b) Q ⟨env, m⟩ = pwp C nb na a Q ⟨env, m⟩ := by
 rw [pwp_cond (s := ⟨env, m⟩) (c := .t t) (x := true) h]; simp
theorem pwp_cond_f {t : Nat} {a b : PCode} {m : Mem} (h : look env t = .d (.bool false)) : pwp C nb na (.cond (.t t) a b) Q ⟨env, m⟩ = pwp C nb na b Q ⟨env, m⟩ := by
 rw [pwp_cond (s := ⟨env, m⟩) (c := .t t) (x := false) h]; simp
theorem pwp_cond_ct {a b : PCode} : pwp C nb na (.cond (.c (.bool true)) a b) Q s = pwp C nb na a Q s := by
 rw [pwp_cond (x := true) rfl]; simp
theorem pwp_cond_cf {a b : PCode} : pwp C nb na (.cond (.c (.bool false)) a b) Q s = pwp C nb na b Q s := by
 rw [pwp_cond (x := false) rfl]; simp
theorem pwp_region {d : Bool} {ops : List PO} {nres : Nat} {keep fzs : List Nat} {m : Mem} : pwp C nb na (.region d ops nres keep fzs) Q ⟨env, m⟩ =
  runPOs C m.boxes.length ops (fun s' => frzSt fzs (Q .normal) ⟨keepEnv s'.env keep, s'.mem⟩) (fun d M => Q (.panic d) ⟨[], M⟩) ⟨env, ⟨m.boxes ++ List.replicate nres none, m.fz, m.arrs⟩⟩ := propext ⟨id, id⟩
theorem pwp_region0 {d : Bool} {ops : List PO} {keep : List Nat} {m : Mem} : pwp C nb na (.region d ops 0 keep []) Q ⟨env, m⟩ =
  runPOs C m.boxes.length ops (fun s' => Q .normal ⟨keepEnv s'.env keep, s'.mem⟩) (fun d M => Q (.panic d) ⟨[], M⟩) ⟨env, m⟩ := by
 rw [pwp_region]; simp only [List.replicate_zero, List.append_nil, frzSt]
theorem frzSt_nil {K : St → Prop} : frzSt [] K s = K s := propext ⟨id, id⟩
theorem frzSt_cons {K : St → Prop} {t : Nat} {ts : List Nat} {m : Mem} {d : DV} (h : datum m (look env t) = some d) : frzSt (t :: ts) K ⟨env, m⟩ = frzSt ts K ⟨(t, .d d) :: env, m.frz [look env t]⟩ := by
 simp only [frzSt, h]
theorem keepEnv_nil : keepEnv env [] = [] := rfl
theorem keepEnv_cons {k : Nat} {ks : List Nat} : keepEnv env (k :: ks) = (k, look env k) :: keepEnv env ks := by simp only [keepEnv, List.map_cons]
end
section
variable {C : Ctx} {base : Nat} {K : St → Prop} {KP : DV → Mem → Prop} {s : St} {env : List (Nat × PV)} {m : Mem}
theorem runPOs_nil : runPOs C base [] K KP s = K s := propext ⟨id, id⟩
theorem runPOs_cons {o : PO} {os : List PO} : runPOs C base (o :: os) K KP s = runPO C base o (fun s' => runPOs C base os K KP s') KP s := propext ⟨id, id⟩
theorem runPO_0 {dst : Option Nat} {op : POp} {args : List Opd} : runPO C base ⟨dst, op, args, none, 0⟩ K KP ⟨env, m⟩ = runOp C base op (args.map (St.val ⟨env, m⟩)) m (fun v M => K ⟨put env dst v, M⟩) KP := propext ⟨fun h => h.2, fun h => ⟨trivial, h⟩⟩
theorem runPO_fl {dst : Option Nat} {op : POp} {args : List Opd} {fl : Nat} : runPO C base ⟨dst, op, args, none, fl⟩ K KP ⟨env, m⟩ = (flOK base fl (args.map (St.val ⟨env, m⟩)) ∧ runOp C base op (args.map (St.val ⟨env, m⟩)) m (fun v M => K ⟨put env dst v, M⟩) KP) := propext ⟨id, id⟩
theorem runPO_tt {dst : Option Nat} {op : POp} {args : List Opd} {fl t : Nat} (h : look env t = .d (.bool true)) : runPO C base ⟨dst, op, args, some (t, true), fl⟩ K KP ⟨env, m⟩ =
  (flOK base fl (args.map (St.val ⟨env, m⟩)) ∧ runOp C base op (args.map (St.val ⟨env, m⟩)) m (fun v M => K ⟨put env dst v, M⟩) KP) := by
 simp only [runPO, h]; simp
theorem runPO_ff {dst : Option Nat} {op : POp} {args : List Opd} {fl t : Nat} (h : look env t = .d (.bool false)) : runPO C base ⟨dst, op, args, some (t, false), fl⟩ K KP ⟨env, m⟩ =
  (flOK base fl (args.map (St.val ⟨env, m⟩)) ∧ runOp C base op (args.map (St.val ⟨env, m⟩)) m (fun v M => K ⟨put env dst v, M⟩) KP) := by
 simp only [runPO, h]; simp
theorem runPO_tf {dst : Option Nat} {op : POp} {args : List Opd} {fl t : Nat} (h : look env t = .d (.bool false)) : runPO C base ⟨dst, op, args, some (t, true), fl⟩ K KP ⟨env, m⟩ = K ⟨put env dst (.d (.tup [])), m⟩ := by
 simp only [runPO, h]; simp
theorem runPO_ft {dst : Option Nat} {op : POp} {args : List Opd} {fl t : Nat} (h : look env t = .d (.bool true)) : runPO C base ⟨dst, op, args, some (t, false), fl⟩ K KP ⟨env, m⟩ = K ⟨put env dst (.d (.tup [])), m⟩ := by
 simp only [runPO, h]; simp
theorem runPO_u {dst : Option Nat} {op : POp} {args : List Opd} {fl t : Nat} {w : Bool} (h : look env t = .d (.tup [])) : runPO C base ⟨dst, op, args, some (t, w), fl⟩ K KP ⟨env, m⟩ = K ⟨put env dst (.d (.tup [])), m⟩ := by
 simp only [runPO, h]
theorem flOK_0 {args : List PV} : flOK base 0 args = True := rfl
theorem flOK_1 {args : List PV} : flOK base 1 args = (args.all PV.isD = true) := propext ⟨id, id⟩
theorem flOK_2p {b o : Nat} {l : List PV} : flOK base 2 (.ptr b o :: l) = (b < base) := propext ⟨id, id⟩
theorem flOK_2d {x : DV} {l : List PV} : flOK base 2 (.d x :: l) = True := propext ⟨id, id⟩
theorem flOK_3 {k v i o : Nat} {l : List PV} : flOK base 3 (.eptr k v i o :: l) = True := propext ⟨id, id⟩
theorem flOK_4 {i b o : Nat} {l : List PV} : flOK base (i + 4) (.ptr b o :: l) = (b = base + i) := propext ⟨id, id⟩
theorem flOK_4' {f b o : Nat} {l : List PV} (h : 4 ≤ f) : flOK base f (.ptr b o :: l) = (b = base + (f - 4)) := by
 obtain ⟨i, rfl⟩ : ∃ i, f = i + 4 := ⟨f - 4, by omega⟩
 rw [flOK_4]; simp
theorem isD_d {x : DV} : PV.isD (.d x) = true := rfl
theorem put_some {d : Nat} {v : PV} : put env (some d) v = (d, v) :: env := by simp only [put]
theorem put_none {v : PV} : put env none v = env := by simp only [put]
theorem look_hit {d : Nat} {v : PV} : look ((d, v) :: env) d = v := by simp [look]
theorem look_miss {d t : Nat} {v : PV} (h : (d == t) = false) : look ((d, v) :: env) t = look env t := by simp [look, h]
theorem val_t {n : Nat} : St.val ⟨env, m⟩ (.t n) = look env n := by simp only [St.val]
theorem val_c {x : DV} : St.val ⟨env, m⟩ (.c x) = .d x := by simp only [St.val]
end
section
variable {C : Ctx} {base : Nat} {M : Mem} {K : PV → Mem → Prop} {KP : DV → Mem → Prop}
theorem ev_mov {x : PV} : runOp C base .mov [x] M K KP = K x M := propext ⟨id, id⟩
theorem ev_asgG_d {sz : Nat} {xs : List DV} : runOp C base (.asgG sz) [.d (.slice true xs)] M K KP = (0 < sz ∧ (∀ e ∈ xs, e.fits sz = true) ∧ K (.tsl M.arrs.length 0 0) { M with arrs := M.arrs ++ [some ⟨sz, xs, 0, 0⟩] }) := propext ⟨fun h => h.2, fun h => ⟨rfl, h⟩⟩
theorem ev_asgG_nil {sz : Nat} : runOp C base (.asgG sz) [.d (.slice true [])] M K KP = (0 < sz ∧ K (.tsl M.arrs.length 0 0) { M with arrs := M.arrs ++ [some ⟨sz, [], 0, 0⟩] }) := by
 rw [ev_asgG_d]; simp
theorem ev_asgG_t {sz k ver skip : Nat} : runOp C base (.asgG sz) [.tsl k ver skip] M K KP = K (.tsl k ver skip) M := propext ⟨id, id⟩
theorem ev_pick {t : Bool} {x y : PV} : runOp C base .pick [.d (.bool t), x, y] M K KP = K (bif t then x else y) M := propext ⟨id, id⟩
theorem ev_alloc {i : Nat} {zs : List DV} : runOp C base (.alloc i zs) [] M K KP = (M.boxes[base + i]? = some none ∧ K (.ptr (base + i) 0) { M with boxes := M.boxes.set (base + i) (some (zs.map .d)) }) := propext ⟨id, id⟩
theorem ev_box {i : Nat} {x : PV} : runOp C base (.box i) [x] M K KP = (x.isDead = false ∧ M.boxes[base + i]? = some none ∧ K (.ptr (base + i) 0) { M with boxes := M.boxes.set (base + i) (some x.cells) }) := propext ⟨id, id⟩
theorem ev_build {zs : List DV} {ps : List (Nat × Nat)} {args : List PV} : runOp C base (.build zs ps) args M K KP = (match fillC (zs.map .d) ps args with | some cs => K (mkAgg cs) M | none => False) := propext ⟨id, id⟩
theorem ev_build' {zs : List DV} {ps : List (Nat × Nat)} {args cs : List PV} (h : fillC (zs.map .d) ps args = some cs) : runOp C base (.build zs ps) args M K KP = K (mkAgg cs) M := by rw [ev_build, h]
theorem ev_mkSl {sz : Nat} {zs xs ds : List DV} {is : List Nat} {args : List PV} (h1 : datumL M args = some ds) (h2 : fillS sz zs is (ds.map DV.strip) = some xs) : runOp C base (.mkSl sz zs is) args M K KP = K (.d (.slice true xs)) (M.frz args) := by
 simp only [runOp, h1, h2]
theorem ev_load {agg : Bool} {n : Nat} {x : PV} : runOp C base (.load agg n) [x] M K KP = runLoad agg n x M fun v => K v M := propext ⟨id, id⟩
theorem ev_loadP {agg : Bool} {n : Nat} {x : PV} : runOp C base (.loadP agg n) [x] M K KP = runLoadP agg n x M fun v => K v M := propext ⟨id, id⟩
theorem ev_store {n : Nat} {x v : PV} : runOp C base (.store n) [x, v] M K KP = runStore n x v M fun M' => K .dead M' := propext ⟨id, id⟩
theorem ev_nilck_p {b o : Nat} : runOp C base .nilck [.ptr b o] M K KP = K (.ptr b o) M := propext ⟨id, id⟩
theorem ev_nilck_d {cs : List DV} : runOp C base .nilck [.d (.cptr cs)] M K KP = K (.d (.cptr cs)) M := propext ⟨id, id⟩
theorem ev_bin {op : BinOp} {x y : PV} : runOp C base (.bin op) [x, y] M K KP = binDV op x y fun v => K (.d v) M := propext ⟨id, id⟩
theorem ev_binA {neq t : Bool} {ks : List Nat} {a b : List DV} (h : cellsEq ks a b = some t) : runOp C base (.binA neq ks) [.d (.agg a), .d (.agg b)] M K KP = K (.d (.bool (t != neq))) M := by simp only [runOp, h]
theorem ev_binB {neq a b : Bool} : runOp C base (.binB neq) [.d (.bool a), .d (.bool b)] M K KP = K (.d (.bool ((a == b) != neq))) M := propext ⟨id, id⟩
theorem ev_isNil {neq ex : Bool} {xs : List DV} : runOp C base (.isNil neq) [.d (.slice ex xs), .d (.slice true [])] M K KP = ((xs ≠ [] → K (.d (.bool neq)) M) ∧ (xs = [] → ∀ b, K (.d (.bool b)) M)) := propext ⟨id, id⟩
theorem ev_un {op : UnOp} {x : PV} : runOp C base (.un op) [x] M K KP = unDV op x fun v => K (.d v) M := propext ⟨id, id⟩
theorem ev_conv {k k' : IntKind} {n : Int} : runOp C base (.conv k) [.d (.int k' n)] M K KP = K (.d (.int k (k.wrap n))) M := propext ⟨id, id⟩
theorem ev_mkI {t : TypeId} {x : PV} {d : DV} (h : datum M x = some d) : runOp C base (.mkI t) [x] M K KP = K (.d (.iface t d)) (M.frz [x]) := by simp only [runOp, h]
theorem ev_mkF {fn : Fn} {nf : Nat} {args : List PV} : runOp C base (.mkF fn nf) args M K KP = (match allD args with | some ds => K (.d (.func fn (ds.take nf) (ds.drop nf))) M | none => K (.func fn (args.take nf) (args.drop nf)) M) := propext ⟨id, id⟩
theorem ev_fld {off : Nat} {x : PV} : runOp C base (.fld off) [x] M K KP = runFld off x M fun v => K v M := propext ⟨id, id⟩
theorem ev_fldv {agg : Bool} {off n : Nat} {x : PV} : runOp C base (.fldv agg off n) [x] M K KP = (x.isAgg = true ∧ off + n ≤ x.cells.length ∧ K (ld agg n off x.cells) M) := propext ⟨id, id⟩
theorem ev_idxA {sz : Nat} {x i : PV} : runOp C base (.idxA sz) [x, i] M K KP = runIdxA sz x i M fun v => K v M := propext ⟨id, id⟩
theorem ev_idxS {s : ByteArray} {k : IntKind} {n : Int} : runOp C base .idxS [.d (.str s), .d (.int k n)] M K KP = (0 ≤ n ∧ n.toNat < s.size ∧ K (.d (.int .u8 (s.data.getD n.toNat 0).toNat)) M) := propext ⟨id, id⟩
theorem ev_idxV {agg : Bool} {sz len : Nat} {x : PV} {k : IntKind} {n : Int} : runOp C base (.idxV agg sz len) [x, .d (.int k n)] M K KP = (x.isAgg = true ∧ 0 ≤ n ∧ n < len ∧ n.toNat * sz + sz ≤ x.cells.length ∧ K (ld agg sz (n.toNat * sz) x.cells) M) := propext ⟨id, id⟩
theorem ev_ext_d {i : Nat} {vs : List DV} {v : DV} (h : vs[i]? = some v) : runOp C base (.ext i) [.d (.tup vs)] M K KP = K (.d v) M := by simp only [runOp, h]
theorem ev_ext_p {i : Nat} {vs : List PV} {v : PV} (h : vs[i]? = some v) : runOp C base (.ext i) [.tup vs] M K KP = K v M := by simp only [runOp, h]
theorem ev_call {f : FuncId} {args : List PV} : runOp C base (.call f) args M K KP = SC C f args M K KP := propext ⟨id, id⟩
theorem ev_pcallD {f : FuncId} {args : List PV} : runOp C base (.pcallD f) args M K KP = runPureD C f args M K := propext ⟨id, id⟩
theorem ev_pcallF {f : FuncId} {args : List PV} : runOp C base (.pcallF f) args M K KP = runPureF C f args M K := propext ⟨id, id⟩
theorem ev_pcall {f : FuncId} {args : List PV} : runOp C base (.pcall f) args M K KP = runPure C f args M K := propext ⟨id, id⟩
theorem ev_app {sz : Nat} {st1 : Bool} {s x : PV} : runOp C base (.app sz st1) [s, x] M K KP = runApp sz st1 s x M K := propext ⟨id, id⟩
theorem ev_len {x : PV} : runOp C base .len [x] M K KP = runLen x M fun n => K (.d (.int .i64 n)) M := propext ⟨id, id⟩
theorem ev_lenS {s : ByteArray} : runOp C base .lenS [.d (.str s)] M K KP = K (.d (.int .i64 s.size)) M := propext ⟨id, id⟩
theorem ev_lenC {n : Nat} {args : List PV} : runOp C base (.lenC n) args M K KP = K (.d (.int .i64 n)) M := propext ⟨id, id⟩
theorem ev_minmax {mx : Bool} {k k' : IntKind} {a b : Int} : runOp C base (.minmax mx) [.d (.int k a), .d (.int k' b)] M K KP = K (.d (.int k (bif mx then (if b > a then b else a) else (if b < a then b else a)))) M := propext ⟨id, id⟩
theorem bin_int {op : BinOp} {k : IntKind} {a b : Int} {K : DV → Prop} : binDV op (.d (.int k a)) (.d (.int k b)) K = binInt op k a b K := propext ⟨fun h => h.2, fun h => ⟨rfl, h⟩⟩
theorem int_add {k : IntKind} {a b : Int} {K : DV → Prop} : binInt .add k a b K = K (.int k (k.wrap (a + b))) := propext ⟨id, id⟩
theorem int_sub {k : IntKind} {a b : Int} {K : DV → Prop} : binInt .sub k a b K = K (.int k (k.wrap (a - b))) := propext ⟨id, id⟩
theorem int_mul {k : IntKind} {a b : Int} {K : DV → Prop} : binInt .mul k a b K = K (.int k (k.wrap (a * b))) := propext ⟨id, id⟩
theorem int_quo {k : IntKind} {a b : Int} {K : DV → Prop} : binInt .quo k a b K = (b ≠ 0 ∧ K (.int k (k.wrap (a.tdiv b)))) := propext ⟨id, id⟩
theorem int_rem {k : IntKind} {a b : Int} {K : DV → Prop} : binInt .rem k a b K = (b ≠ 0 ∧ K (.int k (a.tmod b))) := propext ⟨id, id⟩
theorem int_eql {k : IntKind} {a b : Int} {K : DV → Prop} : binInt .eql k a b K = K (.bool (a == b)) := propext ⟨id, id⟩
theorem int_neq {k : IntKind} {a b : Int} {K : DV → Prop} : binInt .neq k a b K = K (.bool (a != b)) := propext ⟨id, id⟩
theorem int_lss {k : IntKind} {a b : Int} {K : DV → Prop} : binInt .lss k a b K = K (.bool (decide (a < b))) := propext ⟨id, id⟩
theorem int_leq {k : IntKind} {a b : Int} {K : DV → Prop} : binInt .leq k a b K = K (.bool (decide (a ≤ b))) := propext ⟨id, id⟩
theorem int_gtr {k : IntKind} {a b : Int} {K : DV → Prop} : binInt .gtr k a b K = K (.bool (decide (a > b))) := propext ⟨id, id⟩
theorem int_geq {k : IntKind} {a b : Int} {K : DV → Prop} : binInt .geq k a b K = K (.bool (decide (a ≥ b))) := propext ⟨id, id⟩
theorem un_neg {k : IntKind} {a : Int} {K : DV → Prop} : unDV .neg (.d (.int k a)) K = K (.int k (k.wrap (0 - a))) := propext ⟨id, id⟩
theorem un_not {a : Bool} {K : DV → Prop} : unDV .not (.d (.bool a)) K = K (.bool !a) := propext ⟨id, id⟩
theorem load_d {agg : Bool} {n : Nat} {cs : List DV} {K : PV → Prop} : runLoad agg n (.d (.cptr cs)) M K = (n ≤ cs.length ∧ K (ldD agg n 0 cs)) := propext ⟨id, id⟩
theorem load_p {agg : Bool} {n b off : Nat} {cs : List PV} {K : PV → Prop} (h : M.box b = some cs) : runLoad agg n (.ptr b off) M K = (off + n ≤ cs.length ∧ K (ld agg n off cs)) := by simp only [runLoad, h]
theorem load_e {agg : Bool} {n k ver i off : Nat} {A : Arr} {K : PV → Prop} (h : M.row k ver = some A) : runLoad agg n (.eptr k ver i off) M K = (off + n ≤ (A.elems.getD i default).cells.length ∧ K (ldD agg n off (A.elems.getD i default).cells)) := by simp only [runLoad, h]
theorem fld_d {off : Nat} {cs : List DV} {K : PV → Prop} : runFld off (.d (.cptr cs)) M K = (off ≤ cs.length ∧ K (.d (.cptr (cs.drop off)))) := propext ⟨id, id⟩
theorem fld_p {off b o : Nat} {K : PV → Prop} : runFld off (.ptr b o) M K = K (.ptr b (o + off)) := propext ⟨id, id⟩
theorem idxA_d {sz : Nat} {ex : Bool} {xs : List DV} {k : IntKind} {n : Int} {K : PV → Prop} : runIdxA sz (.d (.slice ex xs)) (.d (.int k n)) M K = (0 ≤ n ∧ n.toNat < xs.length ∧ (xs.getD n.toNat default).cells.length = sz ∧ K (.d (.cptr (xs.getD n.toNat default).cells))) := propext ⟨id, id⟩
theorem len_d {ex : Bool} {xs : List DV} {K : Int → Prop} : runLen (.d (.slice ex xs)) M K = K xs.length := propext ⟨id, id⟩
theorem len_t {k ver skip : Nat} {A : Arr} {K : Int → Prop} (h : M.row k ver = some A) : runLen (.tsl k ver skip) M K = K ((A.elems.length - skip : Nat) : Int) := by simp only [runLen, h]
theorem store_p {n b off : Nat} {v : PV} {cs : List PV} {K : Mem → Prop} (h : M.box b = some cs) : runStore n (.ptr b off) v M K = (b ∉ M.fz ∧ v.cells.length = n ∧ v.cells.all PV.one = true ∧ off + n ≤ cs.length ∧ K { M with boxes := M.boxes.set b (some (splice cs off v.cells)) }) := by simp only [runStore, h]
theorem ld_false {n off : Nat} {cs : List PV} : ld false n off cs = cs.getD off .dead := rfl
theorem ld_true {n off : Nat} {cs : List PV} : ld true n off cs = mkAgg ((cs.drop off).take n) := rfl
theorem ldD_false {n off : Nat} {cs : List DV} : ldD false n off cs = .d (cs.getD off default) := rfl
theorem ldD_true {n off : Nat} {cs : List DV} : ldD true n off cs = .d (.agg ((cs.drop off).take n)) := rfl
theorem cells_dagg {cs : List DV} : PV.cells (.d (.agg cs)) = cs.map .d := rfl
theorem cells_dint {k : IntKind} {n : Int} : PV.cells (.d (.int k n)) = [.d (.int k n)] := rfl
theorem cells_dbool {b : Bool} : PV.cells (.d (.bool b)) = [.d (.bool b)] := rfl
theorem cells_dslice {ex : Bool} {xs : List DV} : PV.cells (.d (.slice ex xs)) = [.d (.slice ex xs)] := rfl
theorem cells_dstr {s : ByteArray} : PV.cells (.d (.str s)) = [.d (.str s)] := rfl
theorem dcells_agg {cs : List DV} : DV.cells (.agg cs) = cs := rfl
theorem dcells_int {k : IntKind} {n : Int} : DV.cells (.int k n) = [.int k n] := rfl
theorem isDead_d {x : DV} : PV.isDead (.d x) = false := rfl
theorem mkAgg_d {cs : List DV} : mkAgg (cs.map .d) = .d (.agg cs) := by
 have : allD (cs.map PV.d) = some cs := by
  induction cs with
  | nil => rfl
  | cons c cs ih => simp [allD, ih]
 simp only [mkAgg, this]
theorem noMem_eq : noMem = ⟨[], [], []⟩ := rfl
def loadBox (c : Option (Option (List PV))) (agg : Bool) (n off : Nat) (K : PV → Prop) : Prop := match c with | some (some cs) => off + n ≤ cs.length ∧ K (ld agg n off cs) | _ => False
def storeBox (c : Option (Option (List PV))) (b n off : Nat) (v : PV) (M : Mem) (K : Mem → Prop) : Prop := match c with
 | some (some cs) => b ∉ M.fz ∧ v.cells.length = n ∧ v.cells.all PV.one = true ∧ off + n ≤ cs.length ∧ K ⟨M.boxes.set b (some (splice cs off v.cells)), M.fz, M.arrs⟩
 | _ => False
def lenRow (c : Option (Option Arr)) (ver skip : Nat) (K : Int → Prop) : Prop := match c with | some (some A) => A.ver = ver ∧ K ((A.elems.length - skip : Nat) : Int) | _ => False
def idxRow (c : Option (Option Arr)) (sz k ver skip : Nat) (n : Int) (K : PV → Prop) : Prop := match c with | some (some A) => A.ver = ver ∧ A.sz = sz ∧ 0 ≤ n ∧ skip + n.toNat < A.elems.length ∧ K (.eptr k ver (skip + n.toNat) 0) | _ => False
def loadRow (c : Option (Option Arr)) (agg : Bool) (n ver i off : Nat) (K : PV → Prop) : Prop := match c with
 | some (some A) => A.ver = ver ∧ off + n ≤ (A.elems.getD i default).cells.length ∧ K (ldD agg n off (A.elems.getD i default).cells) | _ => False
def fldRow (c : Option (Option Arr)) (k ver i o : Nat) (K : PV → Prop) : Prop := match c with | some (some A) => A.ver = ver ∧ K (.eptr k ver i o) | _ => False
def appRow (c : Option (Option Arr)) (sz : Nat) (st1 : Bool) (k ver skip : Nat) (ys : List DV) (M : Mem) (K : PV → Mem → Prop) : Prop := match c with
 | some (some A) => A.ver = ver ∧ A.sz = sz ∧ A.st ≠ 2 ∧ A.elems.length + ys.length ≤ 1073741824 ∧ K (.tsl k (ver + 1) 0) ⟨M.boxes, M.fz, M.arrs.set k (some ⟨sz, A.elems.drop skip ++ ys, ver + 1, bif st1 then 1 else A.st⟩)⟩
 | _ => False
variable {bs : List (Option (List PV))} {fz : List Nat} {as : List (Option Arr)}
theorem load_pm {agg : Bool} {n b off : Nat} {K : PV → Prop} : runLoad agg n (.ptr b off) ⟨bs, fz, as⟩ K = loadBox bs[b]? agg n off K := by
 simp only [runLoad, loadBox, Mem.box]
 rcases bs[b]? with _ | _ | cs <;> simp
theorem loadBox_s {agg : Bool} {n off : Nat} {cs : List PV} {K : PV → Prop} : loadBox (some (some cs)) agg n off K = (off + n ≤ cs.length ∧ K (ld agg n off cs)) := propext ⟨id, id⟩
theorem store_pm {n b off : Nat} {v : PV} {K : Mem → Prop} : runStore n (.ptr b off) v ⟨bs, fz, as⟩ K = storeBox bs[b]? b n off v ⟨bs, fz, as⟩ K := by
 simp only [runStore, storeBox, Mem.box]
 rcases bs[b]? with _ | _ | cs <;> simp
theorem storeBox_s {b n off : Nat} {v : PV} {cs : List PV} {K : Mem → Prop} : storeBox (some (some cs)) b n off v ⟨bs, fz, as⟩ K =
  (b ∉ fz ∧ v.cells.length = n ∧ v.cells.all PV.one = true ∧ off + n ≤ cs.length ∧ K ⟨bs.set b (some (splice cs off v.cells)), fz, as⟩) := propext ⟨id, id⟩
theorem row_m {k ver : Nat} : (⟨bs, fz, as⟩ : Mem).row k ver = match as[k]? with | some (some A) => if A.ver = ver then some A else none | _ => none := rfl
theorem len_tm {k ver skip : Nat} {K : Int → Prop} : runLen (.tsl k ver skip) ⟨bs, fz, as⟩ K = lenRow as[k]? ver skip K := by
 simp only [runLen, lenRow, row_m]
 rcases as[k]? with _ | _ | A
 ·simp
 ·simp
 ·by_cases h : A.ver = ver <;> simp [h]
theorem lenRow_s {ver skip : Nat} {sz v st : Nat} {xs : List DV} {K : Int → Prop} : lenRow (some (some ⟨sz, xs, v, st⟩)) ver skip K = (v = ver ∧ K ((xs.length - skip : Nat) : Int)) := propext ⟨id, id⟩
theorem idxA_tm {sz k ver skip : Nat} {kk : IntKind} {n : Int} {K : PV → Prop} : runIdxA sz (.tsl k ver skip) (.d (.int kk n)) ⟨bs, fz, as⟩ K = idxRow as[k]? sz k ver skip n K := by
 simp only [runIdxA, idxRow, row_m]
 rcases as[k]? with _ | _ | A
 ·simp
 ·simp
 ·by_cases h : A.ver = ver <;> simp [h]
theorem idxRow_s {sz k ver skip : Nat} {n : Int} {sz' v st : Nat} {xs : List DV} {K : PV → Prop} : idxRow (some (some ⟨sz', xs, v, st⟩)) sz k ver skip n K = (v = ver ∧ sz' = sz ∧ 0 ≤ n ∧ skip + n.toNat < xs.length ∧ K (.eptr k ver (skip + n.toNat) 0)) := propext ⟨id, id⟩
theorem load_em {agg : Bool} {n k ver i off : Nat} {K : PV → Prop} : runLoad agg n (.eptr k ver i off) ⟨bs, fz, as⟩ K = loadRow as[k]? agg n ver i off K := by
 simp only [runLoad, loadRow, row_m]
 rcases as[k]? with _ | _ | A
 ·simp
 ·simp
 ·by_cases h : A.ver = ver <;> simp [h]
theorem loadRow_s {agg : Bool} {n ver i off sz v st : Nat} {xs : List DV} {K : PV → Prop} : loadRow (some (some ⟨sz, xs, v, st⟩)) agg n ver i off K = (v = ver ∧ off + n ≤ (xs.getD i default).cells.length ∧ K (ldD agg n off (xs.getD i default).cells)) := propext ⟨id, id⟩
theorem fld_em {off k ver i o : Nat} {K : PV → Prop} : runFld off (.eptr k ver i o) ⟨bs, fz, as⟩ K = fldRow as[k]? k ver i (o + off) K := by
 simp only [runFld, fldRow, row_m]
 rcases as[k]? with _ | _ | A
 ·simp
 ·simp
 ·by_cases h : A.ver = ver <;> simp [h]
theorem fldRow_s {k ver i o sz v st : Nat} {xs : List DV} {K : PV → Prop} : fldRow (some (some ⟨sz, xs, v, st⟩)) k ver i o K = (v = ver ∧ K (.eptr k ver i o)) := propext ⟨id, id⟩
theorem app_dd {sz : Nat} {st1 ex : Bool} {xs ys : List DV} {K : PV → Mem → Prop} : runApp sz st1 (.d (.slice true xs)) (.d (.slice ex ys)) ⟨bs, fz, as⟩ K =
  (0 < sz ∧ (∀ y ∈ ys, y.fits sz = true) ∧ (st1 = true → ys ≠ []) ∧ (∀ y ∈ xs, y.fits sz = true) ∧ xs.length + ys.length ≤ 1073741824 ∧ K (.tsl as.length 0 0) ⟨bs, fz, as ++ [some ⟨sz, xs ++ ys, 0, bif st1 then 1 else 0⟩]⟩) := by
 simp only [runApp, appd, true_and]
theorem app_td {sz k ver skip : Nat} {st1 ex : Bool} {ys : List DV} {K : PV → Mem → Prop} : runApp sz st1 (.tsl k ver skip) (.d (.slice ex ys)) ⟨bs, fz, as⟩ K =
  (0 < sz ∧ (∀ y ∈ ys, y.fits sz = true) ∧ (st1 = true → ys ≠ []) ∧ appRow as[k]? sz st1 k ver skip ys ⟨bs, fz, as⟩ K) := by
 simp only [runApp, appd, appRow, row_m]
 rcases as[k]? with _ | _ | A
 ·simp
 ·simp
 ·by_cases h : A.ver = ver <;> simp [h]
theorem appRow_s {sz k ver skip : Nat} {st1 : Bool} {ys : List DV} {sz' v st : Nat} {xs : List DV} {K : PV → Mem → Prop} : appRow (some (some ⟨sz', xs, v, st⟩)) sz st1 k ver skip ys ⟨bs, fz, as⟩ K =
  (v = ver ∧ sz' = sz ∧ st ≠ 2 ∧ xs.length + ys.length ≤ 1073741824 ∧ K (.tsl k (ver + 1) 0) ⟨bs, fz, as.set k (some ⟨sz, xs.drop skip ++ ys, ver + 1, bif st1 then 1 else st⟩)⟩) := propext ⟨id, id⟩
def frzV (v : PV) (t : Nat) (ts : List Nat) (K : St → Prop) (env : List (Nat × PV)) (M : Mem) : Prop := match datum M v with | some d => frzSt ts K ⟨(t, .d d) :: env, M.frz [v]⟩ | none => False
def frzW (v : PV) (t : Nat) (ts : List Nat) (K : St → Prop) (env : List (Nat × PV)) (M : Mem) : Prop := frzV v t ts K env M
def frzB (c : Option (Option (List PV))) (b off t : Nat) (ts : List Nat) (K : St → Prop) (env : List (Nat × PV)) (M : Mem) : Prop := match c with
 | some (some cs) => match allD cs with | some ds => frzSt ts K ⟨(t, .d (.cptr (ds.drop off))) :: env, ⟨M.boxes, b :: M.fz, M.arrs⟩⟩ | none => frzW (.ptr b off) t ts K env M
 | _ => False
theorem frzSt_v {K : St → Prop} {t : Nat} {ts : List Nat} {env : List (Nat × PV)} {m : Mem} : frzSt (t :: ts) K ⟨env, m⟩ = frzV (look env t) t ts K env m := rfl
theorem datum0L_d {M : Mem} : ∀ {ds : List DV}, datum0L M (ds.map .d) = some ds
 | [] => rfl
 | d :: ds => by simp only [List.map_cons, datum0L, datum0, datum0L_d]
theorem frzV_b {K : St → Prop} {b off t : Nat} {ts : List Nat} {env : List (Nat × PV)} : frzV (.ptr b off) t ts K env ⟨bs, fz, as⟩ = frzB bs[b]? b off t ts K env ⟨bs, fz, as⟩ := by
 unfold frzB
 cases hb : bs[b]? with
 | none => simp [frzV, datum, Mem.box, hb]
 | some o =>
  cases o with
  | none => simp [frzV, datum, Mem.box, hb]
  | some cs =>
   simp only
   cases hd : allD cs with
   | none => rfl
   | some ds =>
    have := allD_eq hd
    subst this
    have h2 : (ds.map PV.d).flatMap refsA0 = [] := by
     clear hb hd; induction ds with
     | nil => rfl
     | cons d ds ih => simp [refsA0]
    have h3 : (ds.map PV.d).flatMap refsB0 = [] := by
     clear hb hd h2; induction ds with
     | nil => rfl
     | cons d ds ih => simp [refsB0]
    simp only [h3, frzV, datum, Mem.box, hb, datum0L_d, Option.map_some, Mem.frz, List.flatMap_cons, List.flatMap_nil, refsB, refsA, h2, List.append_nil, List.cons_append, List.nil_append, frzA, List.foldl_nil]
theorem frzB_s {K : St → Prop} {b off t : Nat} {ts : List Nat} {env : List (Nat × PV)} {ds : List DV} : frzB (some (some (ds.map .d))) b off t ts K env ⟨bs, fz, as⟩ = frzSt ts K ⟨(t, .d (.cptr (ds.drop off))) :: env, ⟨bs, b :: fz, as⟩⟩ := by
 have : allD (ds.map PV.d) = some ds := by
  induction ds with
  | nil => rfl
  | cons c cs ih => simp [allD, ih]
 simp only [frzB, this]
def allDk (cs : List PV) (acc : List DV) : Option (List DV) := match cs with | [] => some acc.reverse | .d x :: l => allDk l (x :: acc) | _ => none
theorem frzB_1 {K : St → Prop} {b off t : Nat} {ts : List Nat} {env : List (Nat × PV)} {cs : List PV} : frzB (some (some cs)) b off t ts K env ⟨bs, fz, as⟩ = (match allD cs with | some ds => frzSt ts K ⟨(t, .d (.cptr (ds.drop off))) :: env, ⟨bs, b :: fz, as⟩⟩ | none => frzW (.ptr b off) t ts K env ⟨bs, fz, as⟩) := rfl
theorem allD_nil : allD [] = some [] := rfl
theorem allD_cons {x : DV} {l : List PV} : allD (.d x :: l) = (allD l).map (x :: ·) := rfl
theorem pcallD_of {f : FuncId} {args : List PV} {ds ds' : List DV} {x : DV} (h1 : allD args = some ds) (h2 : ds.map DV.strip = ds') (hp : Pure C f ds' (.d x) []) (hK : K (.d x) M) : runPureD C f args M K := ⟨ds, h1, x, h2 ▸ hp, hK⟩
theorem call_d {base : Nat} {KP : DV → Mem → Prop} {f : FuncId} {args : List PV} {ds ds' : List DV} {x : DV} (h1 : allD args = some ds) (h2 : ds.map DV.strip = ds') (hp : Pure C f ds' (.d x) []) (hK : K (.d x) M) : runOp C base (.pcallD f) args M K KP := ⟨ds, h1, x, h2 ▸ hp, hK⟩
theorem one_d {x : DV} : PV.one (.d x) = x.one := rfl
theorem one_int {k : IntKind} {n : Int} : DV.one (.int k n) = true := rfl
theorem one_bool {b : Bool} : DV.one (.bool b) = true := rfl
theorem one_str {s : ByteArray} : DV.one (.str s) = true := rfl
theorem one_slice {ex : Bool} {xs : List DV} : DV.one (.slice ex xs) = true := rfl
theorem one_map {r : Option (List (DV × DV))} : DV.one (.map r) = true := rfl
end
end Go.Am
namespace Go.Am
inductive Ty where
 | int (k : IntKind)
 | bool
 | str
 | slice (e : Ty)
 | struct (fs : List Ty)
mutual
def Ty.size : Ty → Nat
 | .struct fs => sizeL fs
 | _ => 1
def sizeL : List Ty → Nat
 | [] => 0
 | t :: ts => t.size + sizeL ts
end
def Ty.intFirst : Ty → Bool
 | .int .i64 => true
 | .struct (.int .i64 :: _) => true
 | _ => false
def Ty.isStruct : Ty → Bool
 | .struct _ => true
 | _ => false
def Shp (e : Ty) (x : DV) : Prop := (e.isStruct = true → ∃ cs, x = .agg cs) ∧ (e.isStruct = false → x.cells = [x])
inductive Has : Ty → List DV → Prop
 | int {k : IntKind} {n : Int} (h : (Lit.int k n).wf = true) : Has (.int k) [.int k n]
 | bool {b : Bool} : Has .bool [.bool b]
 | str {s : ByteArray} (h : s.size ≤ maxLen) : Has .str [.str s]
 | slice {e : Ty} {xs : List DV} (h : ∀ x ∈ xs, Has e x.cells) (h' : ∀ x ∈ xs, Shp e x) : Has (.slice e) [.slice false xs]
 | nil : Has (.struct []) []
 | cons {t : Ty} {ts : List Ty} {ds es : List DV} (h : Has t ds) (h' : Has (.struct ts) es) : Has (.struct (t :: ts)) (ds ++ es)
mutual
def okTy (P : Program) : Ty → TypeId → Bool
 | .int k, t => (match P.underlying t with | some (.int k') => decide (k' = k) | _ => false) && P.cellsOf t == 1
 | .bool, t => (match P.underlying t with | some .bool => true | _ => false) && P.cellsOf t == 1
 | .str, t => (match P.underlying t with | some .string => true | _ => false) && P.cellsOf t == 1
 | .slice e, t => (match P.underlying t with | some (.slice u) => okTy P e u && e.intFirst | _ => false) && P.cellsOf t == 1
 | .struct fs, t => (match P.underlying t with | some (.struct gs) => okTys P fs gs.toList 0 | _ => false) && P.cellsOf t == sizeL fs
def okTys (P : Program) : List Ty → List Field → Nat → Bool
 | [], [], _ => true
 | t :: ts, g :: gs, off => okTy P t g.type && decide (g.offset = off) && okTys P ts gs (off + t.size)
 | _, _, _ => false
end
theorem okTy_size {P : Program} : ∀ {T : Ty} {t : TypeId}, okTy P T t = true → P.cellsOf t = T.size
 | .int k, t, h => by simp [okTy] at h; simp [Ty.size, h.2]
 | .bool, t, h => by simp [okTy] at h; simp [Ty.size, h.2]
 | .str, t, h => by simp [okTy] at h; simp [Ty.size, h.2]
 | .slice e, t, h => by simp [okTy] at h; simp [Ty.size, h.2]
 | .struct fs, t, h => by simp [okTy] at h; simp [Ty.size, h.2]
theorem intFirst_pos : ∀ {e : Ty}, e.intFirst = true → 0 < e.size
 | .int k, _ => by simp [Ty.size]
 | .struct (t :: ts), h => by
  cases t with
  | int k => simp only [Ty.size, sizeL]; omega
  | _ => simp [Ty.intFirst] at h
 | .bool, _ => by simp [Ty.size]
 | .str, _ => by simp [Ty.size]
 | .slice _, _ => by simp [Ty.size]
 | .struct [], h => by simp [Ty.intFirst] at h
theorem has_size : ∀ {T : Ty} {ds : List DV}, Has T ds → ds.length = T.size := by
 intro T ds h
 induction h with
 | cons h h' ih ih' => simp only [List.length_append, Ty.size, sizeL] at *; omega
 | _ => simp [Ty.size, sizeL]
theorem has_intFirst {e : Ty} {ds : List DV} (he : e.intFirst = true) (h : Has e ds) : ∃ n, ds[0]? = some (.int .i64 n) := by
 cases h with
 | int h => rename_i k n; cases k <;> simp [Ty.intFirst] at he; exact ⟨n, rfl⟩
 | cons h h' =>
  rename_i t ts ds es
  cases h with
  | int h => rename_i k n; cases k <;> simp [Ty.intFirst] at he; exact ⟨n, rfl⟩
  | _ => simp [Ty.intFirst] at he
 | _ => simp [Ty.intFirst] at he
theorem mapM_mem {α β : Type} {f : α → Option β} : ∀ {l : List α} {ys : List β}, l.mapM f = some ys → ∀ x ∈ l, ∃ y, f x = some y
 | [], _, _, x, hx => by simp at hx
 | a :: l, ys, h, x, hx => by
  simp only [List.mapM_cons, Option.bind_eq_bind, Option.bind_eq_some_iff, Option.pure_def, Option.some.injEq] at h
  obtain ⟨y, h1, zs, h2, _⟩ := h
  rcases List.mem_cons.1 hx with rfl | hx
  ·exact ⟨y, h1⟩
  ·exact mapM_mem h2 x hx
section
variable {H : Type} {enc : TypeId × Value → H} {P : Program} {w : World} {base : Nat} {spare : Nat → Bool} {held : Bool} {O : Nat → Prop}
theorem cells_at {a : Addr} {n : Nat} {cs : List Value} (h : w.cells? base a n = some cs) (hn : 0 < n) : ∃ c T fz, a.spot = none ∧ w.heap[a.block]? = some (.cells c T fz) ∧ (c.toList.drop a.off).take n = cs := by
 obtain ⟨_, hl, hg⟩ := World.cells?_some h
 have h0 := hg 0 hn
 have hc0 : cs[0]? = some cs[0] := List.getElem?_eq_getElem (by omega)
 rw [hc0] at h0
 obtain ⟨blk, off, spot⟩ := a
 have hsp : spot = none := by
  cases spot with
  | none => rfl
  | some q => simp only [World.cell?, Addr.add] at h0; split at h0 <;> simp at h0
 subst hsp
 simp only [Addr.add_lit] at hg h0
 cases hb : w.heap[blk]? with
 | none => simp [World.cell?, hb] at h0
 | some o =>
  cases o with
  | cells c T fz =>
   refine ⟨c, T, fz, rfl, rfl, ?_⟩
   have hg' : ∀ i, i < n → c[off + i]? = cs[i]? := fun i hi => by
    have := hg i hi
    rwa [cell_of_row w blk (off + i) c T fz hb] at this
   apply List.ext_getElem?
   intro i
   by_cases hi : i < n
   ·rw [List.getElem?_take, if_pos hi, List.getElem?_drop, Array.getElem?_toList]
    exact hg' i hi
   ·rw [List.getElem?_take, if_neg hi, List.getElem?_eq_none (by omega)]
  | _ => simp [World.cell?, hb] at h0
theorem pieces {c : Array Value} {off sz : Nat} {e : Ty} (hsz : e.size = sz) : ∀ (k : Nat), (∀ i, i < k → ∃ x : DV, Has e x.cells ∧ Shp e x ∧ RepL w O ((c.toList.drop (off + i * sz)).take sz) x.cells) →
  ∃ xs : List DV, xs.length = k ∧ (∀ x ∈ xs, Has e x.cells) ∧ (∀ x ∈ xs, Shp e x) ∧ RepL w O ((c.toList.drop off).take (k * sz)) (flat xs)
 | 0, _ => ⟨[], rfl, fun x hx => by simp at hx, fun x hx => by simp at hx, by simpa [flat] using .nil⟩
 | k + 1, h => by
  obtain ⟨xs, h1, h2, h3, h4⟩ := pieces hsz k fun i hi => h i (by omega)
  obtain ⟨x, g1, g2, g3⟩ := h k (by omega)
  refine ⟨xs ++ [x], by simp [h1], ?_, ?_, ?_⟩
  ·intro y hy
   rcases List.mem_append.1 hy with hy | hy
   ·exact h2 y hy
   ·simp at hy; subst hy; exact g1
  ·intro y hy
   rcases List.mem_append.1 hy with hy | hy
   ·exact h3 y hy
   ·simp at hy; subst hy; exact g2
  ·have e1 : (c.toList.drop off).take ((k + 1) * sz) = (c.toList.drop off).take (k * sz) ++ (c.toList.drop (off + k * sz)).take sz := by
    rw [Nat.add_mul, Nat.one_mul, List.take_add, List.drop_drop]
   rw [e1, flat_append]
   refine h4.append ?_
   simpa [flat] using g3
mutual
theorem read_ty (hO : ∀ b, O b → ∀ c T fz, w.heap[b]? = some (.cells c T fz) → ∀ (i : Nat) (n : Int), c[i]? ≠ some (.int .i64 n)) : ∀ (T : Ty) (fuel : Nat) (t : TypeId) (cs : List Value) (x : DataW H × List MemPlace), okTy P T t = true →
  DataW.trod enc P w base spare held fuel t cs = some x → ∃ ds, Has T ds ∧ RepL w O cs ds
 | .int k, fuel, t, cs, x, hok, h => by
  simp only [okTy, Bool.and_eq_true] at hok
  obtain ⟨hok, _⟩ := hok
  split at hok
  ·rename_i k' hk
   simp only [decide_eq_true_eq] at hok
   subst hok
   cases fuel with
   | zero => simp [DataW.trod] at h
   | succ fuel =>
    unfold DataW.trod at h
    rw [hk] at h
    split at h <;> simp_all
    obtain ⟨⟨rfl, hw⟩, _⟩ := h
    exact ⟨_, .int hw, .cons (.int _ _) .nil⟩
  ·cases hok
 | .bool, fuel, t, cs, x, hok, h => by
  simp only [okTy, Bool.and_eq_true] at hok
  obtain ⟨hok, _⟩ := hok
  split at hok
  ·rename_i hk
   cases fuel with
   | zero => simp [DataW.trod] at h
   | succ fuel =>
    unfold DataW.trod at h
    rw [hk] at h
    split at h <;> simp_all
    exact ⟨_, .bool, .cons (.bool _) .nil⟩
  ·cases hok
 | .str, fuel, t, cs, x, hok, h => by
  simp only [okTy, Bool.and_eq_true] at hok
  obtain ⟨hok, _⟩ := hok
  split at hok
  ·rename_i hk
   cases fuel with
   | zero => simp [DataW.trod] at h
   | succ fuel =>
    unfold DataW.trod at h
    rw [hk] at h
    split at h <;> simp_all
    exact ⟨_, .str h.1, .cons (.str _) .nil⟩
  ·cases hok
 | .slice e, fuel, t, cs, x, hok, h => by
  simp only [okTy, Bool.and_eq_true] at hok
  obtain ⟨hok, _⟩ := hok
  split at hok
  ·rename_i u hk
   simp only [Bool.and_eq_true] at hok
   obtain ⟨hu, hint⟩ := hok
   have hsz := okTy_size hu
   have hpos := intFirst_pos hint
   rcases Go.Deep.open_slice hk h with ⟨rfl, _⟩ | ⟨a, len, cap, m, n, D, Pl, rfl, _, hcap, _, hm, _, hel⟩
   ·exact ⟨_, .slice (xs := []) (fun x hx => by simp at hx) (fun x hx => by simp at hx), .cons (.empty (fun hh => by cases hh)) .nil⟩
   ·have hlm : len ≤ m := by rw [hm]; split <;> omega
    rw [hsz] at hel
    have hpc : ∀ i, i < len → ∃ cs', w.cells? base (a.add (i * e.size)) e.size = some cs' ∧ ∃ ds, Has e ds ∧ RepL w O cs' ds := by
     intro i hi
     obtain ⟨cs', hc1, hc2⟩ := hel i (by omega)
     exact ⟨cs', hc1, read_ty hO e n _ cs' _ hu hc2⟩
    by_cases h0 : len = 0
    ·subst h0
     exact ⟨_, .slice (xs := []) (fun x hx => by simp at hx) (fun x hx => by simp at hx), .cons (.empty (fun hh => by cases hh)) .nil⟩
    ·obtain ⟨cs0, hc0, ds0, hd0, hr0⟩ := hpc 0 (by omega)
     rw [Nat.zero_mul] at hc0
     obtain ⟨c, T, fz, hsp, hb, htk⟩ := cells_at hc0 hpos
     obtain ⟨blk, off, spot⟩ := a
     simp only [Addr.add, if_true] at hsp hb htk
     subst hsp
     have hxs := pieces (w := w) (O := O) (c := c) (off := off) (sz := e.size) (e := e) rfl len (fun i hi => by
      obtain ⟨cs', g1, ds, g2, g3⟩ := hpc i hi
      obtain ⟨c', T', fz', _, hb', htk'⟩ := cells_at g1 hpos
      simp only [Addr.add_lit] at hb' htk'
      rw [hb] at hb'
      cases hb'
      cases hst : e.isStruct with
      | true =>
       refine ⟨.agg ds, g2, ⟨fun _ => ⟨ds, rfl⟩, fun hh => by rw [hst] at hh; cases hh⟩, ?_⟩
       rw [htk']; exact g3
      | false =>
       have hone : e.size = 1 := by cases e <;> simp_all [Ty.size, Ty.isStruct]
       have hl := has_size g2
       rw [hone] at hl
       obtain ⟨d, rfl⟩ := List.length_eq_one_iff.1 hl
       have hdc : d.cells = [d] := by
        obtain ⟨n, hn⟩ := has_intFirst hint g2
        simp at hn; subst hn; rfl
       refine ⟨d, (by rw [hdc]; exact g2), ⟨fun hh => (by rw [hst] at hh; cases hh), fun _ => hdc⟩, ?_⟩
       rw [htk', hdc]; exact g3)
     obtain ⟨xs, x1, x2, x3, x4⟩ := hxs
     refine ⟨_, .slice x2 x3, .cons (.slice (sz := e.size) hb ?_ x1 (fun x hx => has_size (x2 x hx)) hcap (fun hh => by cases hh) x4) .nil⟩
     intro hOb
     obtain ⟨n, hn⟩ := has_intFirst hint hd0
     obtain ⟨v, hv, hvr⟩ := hr0.get' 0 _ hn
     have hvi := hvr.int_inv
     subst hvi
     have hcell : c[off]? = some (.int .i64 n) := by
      have h5 : ((c.toList.drop off).take e.size)[0]? = some (.int .i64 n) := by rw [htk]; exact hv
      rw [List.getElem?_take, if_pos hpos, List.getElem?_drop, Array.getElem?_toList] at h5
      simpa using h5
     exact hO blk hOb c T fz hb off n hcell
  ·cases hok
 | .struct fs, fuel, t, cs, x, hok, h => by
  simp only [okTy, Bool.and_eq_true, beq_iff_eq] at hok
  obtain ⟨hok, hsize⟩ := hok
  split at hok
  ·rename_i gs hk
   cases fuel with
   | zero => simp [DataW.trod] at h
   | succ fuel =>
    unfold DataW.trod at h
    rw [hk] at h
    simp only at h
    split at h
    ·rename_i hlen
     rw [Option.map_eq_some_iff] at h
     obtain ⟨ys, hys, _⟩ := h
     obtain ⟨ds, h1, h2⟩ := read_tys hO fs fuel gs.toList 0 cs ys hok hys
     refine ⟨ds, h1, ?_⟩
     rw [List.drop_zero, List.take_of_length_le (by rw [hlen, hsize]; exact Nat.le_refl _)] at h2
     exact h2
    ·cases h
  ·cases hok
theorem read_tys (hO : ∀ b, O b → ∀ c T fz, w.heap[b]? = some (.cells c T fz) → ∀ (i : Nat) (n : Int), c[i]? ≠ some (.int .i64 n)) : ∀ (fs : List Ty) (fuel : Nat) (gs : List Field) (off : Nat) (cs : List Value) (ys : List (DataW H × List MemPlace)), okTys P fs gs off = true →
  (gs.mapM fun f => DataW.trod enc P w base spare held fuel f.type ((cs.drop f.offset).take (P.cellsOf f.type))) = some ys → ∃ ds, Has (.struct fs) ds ∧ RepL w O ((cs.drop off).take (sizeL fs)) ds
 | [], fuel, [], off, cs, ys, _, _ => ⟨[], .nil, by simpa [sizeL] using .nil⟩
 | T :: fs, fuel, g :: gs, off, cs, ys, hok, h => by
  simp only [okTys, Bool.and_eq_true, decide_eq_true_eq] at hok
  obtain ⟨⟨h1, h2⟩, h3⟩ := hok
  simp only [List.mapM_cons, Option.bind_eq_bind, Option.bind_eq_some_iff, Option.pure_def, Option.some.injEq] at h
  obtain ⟨y, g1, zs, g2, _⟩ := h
  rw [h2, okTy_size h1] at g1
  obtain ⟨ds, q1, q2⟩ := read_ty hO T fuel g.type _ y h1 g1
  obtain ⟨es, r1, r2⟩ := read_tys hO fs fuel gs (off + T.size) cs zs h3 g2
  refine ⟨ds ++ es, .cons q1 r1, ?_⟩
  simp only [sizeL]
  rw [List.take_add, List.drop_drop]
  exact q2.append r2
 | [], fuel, _ :: _, _, _, _, hok, _ => by simp [okTys] at hok
 | _ :: _, fuel, [], _, _, _, hok, _ => by simp [okTys] at hok
end
end
end Go.Am
