/-
  Part 10 of the proof of a law of plates: an abstract machine over the model, contracts of functions, plain laws.
  Conditions: none.
-/
import Derived.Test.YticjmjdcggomgaaGreatDoorM09
set_option linter.all false
namespace Go.Am
def gval (env : List (Nat × PV)) : Option (Nat × Bool) → Option Bool
 | none => some true
 | some (t, want) => match look env t with | .d (.bool x) => some (x == want) | .d (.tup []) => some false | _ => none
section
variable {C : Ctx} {base : Nat}
theorem runPO_gval {o : PO} {K : St → Prop} {KP : DV → Mem → Prop} {s : St} : runPO C base o K KP s ↔ match gval s.env o.g with
  | some true => flOK base o.fl (o.args.map s.val) ∧ runOp C base o.op (o.args.map s.val) s.mem (fun v M => K ⟨put s.env o.dst v, M⟩) KP
  | some false => K ⟨put s.env o.dst (.d (.tup [])), s.mem⟩
  | none => False := by
 unfold runPO gval
 cases hg : o.g with
 | none => exact Iff.rfl
 | some q =>
  obtain ⟨t, want⟩ := q
  simp only
  generalize look s.env t = p
  cases p with
  | d y =>
   cases y with
   | bool x =>
    simp only
    by_cases hxw : x = want
    ·subst hxw
     have : ¬ (x = !x) := by cases x <;> simp
     simp only [beq_self_eq_true, true_implies, this, false_implies, and_true]
    ·have h1 : (x == want) = false := by simp [hxw]
     have h2 : x = !want := by cases x <;> cases want <;> simp_all
     simp only [h1]
     constructor
     ·intro h; exact h.2 h2
     ·intro h; exact ⟨fun e => absurd e hxw, fun _ => h⟩
   | tup vs => cases vs <;> exact Iff.rfl
   | _ => exact Iff.rfl
  | _ => exact Iff.rfl
def Opd.isT (d : Nat) : Opd → Bool | .t n => n == d | .c _ => false
def looks (o : PO) (d : Nat) : Bool := o.args.any (Opd.isT d) || (match o.g with | some (t, _) => t == d | none => false)
def apartPO (x y : PO) : Bool := (match x.dst with | some d => !looks y d && decide (y.dst ≠ some d) | none => true) && (match y.dst with | some d => !looks x d | none => true)
theorem look_put_ne {env : List (Nat × PV)} {dst : Option Nat} {v : PV} {t : Nat} (h : ∀ d, dst = some d → t ≠ d) : look (put env dst v) t = look env t := by
 cases dst with
 | none => rfl
 | some d =>
  have : (d == t) = false := by simp; exact fun e => h d rfl e.symm
  simp [put, look, this]
theorem args_put {o : PO} {env : List (Nat × PV)} {dst : Option Nat} {v : PV} {M M' : Mem} (h : ∀ d, dst = some d → looks o d = false) :
  o.args.map (St.val ⟨put env dst v, M'⟩) = o.args.map (St.val ⟨env, M⟩) ∧ gval (put env dst v) o.g = gval env o.g := by
 constructor
 ·refine List.map_congr_left fun x hx => ?_
  cases x with
  | c d => rfl
  | t n =>
   refine look_put_ne fun d hd => ?_
   have := h d hd
   simp only [looks, Bool.or_eq_false_iff, List.any_eq_false] at this
   have := this.1 _ hx
   simpa [Opd.isT] using this
 ·cases hg : o.g with
  | none => rfl
  | some q =>
   obtain ⟨t, want⟩ := q
   simp only [gval]
   rw [look_put_ne fun d hd => ?_]
   have := h d hd
   simp only [looks, hg, Bool.or_eq_false_iff, beq_eq_false_iff_ne] at this
   exact this.2
def Ext (K : St → Prop) : Prop := ∀ s s' : St, (∀ t, look s.env t = look s'.env t) → s.mem = s'.mem → K s → K s'
theorem Ext.use {K : St → Prop} (hK : Ext K) {s s' : St} (h : K s) (he : ∀ t, look s.env t = look s'.env t) (hm : s.mem = s'.mem) : K s' := hK s s' he hm h
theorem look_put_comm {env : List (Nat × PV)} {d1 d2 : Option Nat} {v1 v2 : PV} (h : ∀ d, d1 = some d → d2 ≠ some d) (t : Nat) : look (put (put env d1 v1) d2 v2) t = look (put (put env d2 v2) d1 v1) t := by
 cases d1 with
 | none => rfl
 | some a =>
  cases d2 with
  | none => rfl
  | some b =>
   have hab : a ≠ b := fun e => h a rfl (e ▸ rfl)
   simp only [put, look]
   by_cases h1 : a = t
   ·subst h1
    have : (b == a) = false := by simp; exact fun e => hab e.symm
    simp [this]
   ·have : (a == t) = false := by simp [h1]
    simp [this]
theorem swap_PO {oj oi : PO} (hk : (kd oj.op oj.fl).swap (kd oi.op oi.fl) = true) (hap : apartPO oj oi = true) {K : St → Prop} {KP : DV → Mem → Prop} (hK : Ext K) (s : St)
  (h : runPO C base oj (fun s' => runPO C base oi K KP s') KP s) : runPO C base oi (fun s' => runPO C base oj K KP s') KP s := by
 have hxj : kd oj.op oj.fl ≠ .x := by intro e; rw [e] at hk; cases hk
 have hxi : kd oi.op oi.fl ≠ .x := by intro e; rw [e] at hk; cases hh : kd oj.op oj.fl <;> rw [hh] at hk <;> cases hk
 simp only [apartPO, Bool.and_eq_true] at hap
 obtain ⟨a1, a2⟩ := hap
 have hj : ∀ d, oj.dst = some d → looks oi d = false := by intro d hd; rw [hd] at a1; simp at a1; exact a1.1
 have hd : ∀ d, oj.dst = some d → oi.dst ≠ some d := by intro d hd; rw [hd] at a1; simp at a1; exact a1.2
 have hi : ∀ d, oi.dst = some d → looks oj d = false := by intro d hd; rw [hd] at a2; simpa using a2
 obtain ⟨env, M⟩ := s
 rw [runPO_gval] at h ⊢
 simp only at h ⊢
 cases gj : gval env oj.g with
 | none => rw [gj] at h; exact h.elim
 | some bj =>
  rw [gj] at h
  cases bj with
  | false =>
   simp only at h
   rw [runPO_gval] at h
   simp only [(args_put (M := M) (M' := M) hj).1, (args_put (M := M) (M' := M) hj).2] at h
   cases gi : gval env oi.g with
   | none => rw [gi] at h; exact h.elim
   | some bi =>
    rw [gi] at h
    cases bi with
    | false =>
     simp only at h ⊢
     rw [runPO_gval]
     simp only [(args_put (M := M) (M' := M) hi).2, gj]
     exact hK.use h (look_put_comm hd) rfl
    | true =>
     simp only at h ⊢
     obtain ⟨hf, hr⟩ := h
     obtain ⟨R, _, hR⟩ := spec_of (C := C) hxi hf
     obtain ⟨v, M', r1, r2⟩ := (hR _ _ _).1 hr
     refine ⟨hf, (hR _ _ _).2 ⟨v, M', r1, ?_⟩⟩
     rw [runPO_gval]
     simp only [(args_put (M := M) (M' := M') hi).2, gj]
     exact hK.use r2 (look_put_comm hd) rfl
  | true =>
   simp only at h
   obtain ⟨hfj, hrj⟩ := h
   obtain ⟨Rj, sj, hRj⟩ := spec_of (C := C) hxj hfj
   obtain ⟨v1, M1, r1, h⟩ := (hRj _ _ _).1 hrj
   rw [runPO_gval] at h
   simp only [(args_put (M := M) (M' := M1) hj).1, (args_put (M := M) (M' := M1) hj).2] at h
   cases gi : gval env oi.g with
   | none => rw [gi] at h; exact h.elim
   | some bi =>
    rw [gi] at h
    cases bi with
    | false =>
     simp only at h ⊢
     rw [runPO_gval]
     simp only [(args_put (M := M) (M' := M) hi).1, (args_put (M := M) (M' := M) hi).2, gj]
     exact ⟨hfj, (hRj _ _ _).2 ⟨v1, M1, r1, hK.use h (look_put_comm hd) rfl⟩⟩
    | true =>
     simp only at h ⊢
     obtain ⟨hfi, hri⟩ := h
     obtain ⟨Ri, si, hRi⟩ := spec_of (C := C) hxi hfi
     obtain ⟨v2, M2, r2, h⟩ := (hRi _ _ _).1 hri
     obtain ⟨M1', c1, c2⟩ := comm_swap hk sj si _ _ _ _ _ r1 r2
     refine ⟨hfi, (hRi _ _ _).2 ⟨v2, M1', c1, ?_⟩⟩
     rw [runPO_gval]
     simp only [(args_put (M := M) (M' := M1') hi).1, (args_put (M := M) (M' := M1') hi).2, gj]
     exact ⟨hfj, (hRj _ _ _).2 ⟨v1, M2, c2, hK.use h (look_put_comm hd) rfl⟩⟩
theorem SC.mono {f : FuncId} {args : List PV} {M : Mem} {K K' : PV → Mem → Prop} {KP : DV → Mem → Prop} (h : SC C f args M K KP) (hk : ∀ v M', K v M' → K' v M') : SC C f args M K' KP := by
 intro X w E vals hS hA
 refine (h X w E vals hS hA).mono fun e w' he => ?_
 cases e with
 | returned v =>
  obtain ⟨p, M', E', h1, h2⟩ := he
  exact ⟨p, M', E', hk _ _ h1, h2⟩
 | panicked c => exact he
 | outgrown => exact he
theorem SY.mono {b : Nat} {args : List PV} {M : Mem} {K K' : PV → Mem → Prop} {KP : DV → Mem → Prop} (h : SY C b args M K KP) (hk : ∀ v M', K v M' → K' v M') : SY C b args M K' KP := by
 intro X w E vals l hS hA hl
 obtain ⟨fn, tmps, a, body, h1, h2⟩ := h X w E vals l hS hA hl
 refine ⟨fn, tmps, a, body, h1, h2.mono fun e w' he => ?_⟩
 cases e with
 | returned v => obtain ⟨p, M', E', g1, g2⟩ := he; exact ⟨p, M', E', hk _ _ g1, g2⟩
 | panicked c => exact he
 | outgrown => exact he
theorem optInt_mono {f : Bool} {l : List PV} {K K' : Option Int → List PV → Prop} (hk : ∀ a l, K a l → K' a l) (h : optInt f l K) : optInt f l K' := by
 unfold optInt at h ⊢
 split at h
 ·exact hk _ _ h
 ·exact hk _ _ h
 ·exact h.elim
theorem runOp_mono {op : POp} {args : List PV} {M : Mem} {K K' : PV → Mem → Prop} {KP : DV → Mem → Prop} (hk : ∀ v M', K v M' → K' v M') (h : runOp C base op args M K KP) : runOp C base op args M K' KP := by
 by_cases hx : ∃ fl, kd op fl ≠ .x ∧ flOK base fl args
 ·obtain ⟨fl, h1, h2⟩ := hx
  obtain ⟨R, _, hR⟩ := spec_of (C := C) h1 h2
  obtain ⟨v, M', r, k⟩ := (hR _ _ _).1 h
  exact (hR _ _ _).2 ⟨v, M', r, hk _ _ k⟩
 ·have hx' : kd op 0 = .x := by
   by_cases hh : kd op 0 = .x
   ·exact hh
   ·exact absurd ⟨0, hh, trivial⟩ hx
  cases op with
  | asgG sz =>
   simp only [runOp] at h ⊢
   split at h
   ·exact ⟨h.1, h.2.1, h.2.2.1, hk _ _ h.2.2.2⟩
   ·exact hk _ _ h
   ·exact h.elim
  | mkSl sz zs is =>
   simp only [runOp] at h ⊢
   split at h
   ·rename_i ds hds
    try simp only [hds]
    split at h
    ·rename_i xs hxs; (try simp only [hxs]); exact hk _ _ h
    ·exact h.elim
   ·exact h.elim
  | store n =>
   simp only [runOp] at h ⊢
   split at h
   ·rename_i x y
    simp only [runStore] at h ⊢
    split at h
    ·split at h
     ·rename_i cs hcs; (try simp only [hcs]); exact ⟨h.1, h.2.1, h.2.2.1, h.2.2.2.1, hk _ _ h.2.2.2.2⟩
     ·exact h.elim
    ·split at h
     ·rename_i A ds hA hds; (try simp only [hA, hds]); exact ⟨h.1, h.2.1, h.2.2.1, h.2.2.2.1, h.2.2.2.2.1, hk _ _ h.2.2.2.2.2⟩
     ·exact h.elim
    ·exact h.elim
   ·exact h.elim
  | mkI t =>
   simp only [runOp] at h ⊢
   split at h
   ·split at h
    ·rename_i d hd; (try simp only [hd]); exact hk _ _ h
    ·exact h.elim
   ·exact h.elim
  | slcS lo hi =>
   simp only [runOp, runSlcS] at h ⊢
   split at h
   ·refine optInt_mono (fun a l => optInt_mono fun b l => optInt_mono fun m l hh => ?_) h
    exact ⟨hh.1, hh.2.1, hh.2.2.1, hh.2.2.2.1, hh.2.2.2.2.1, hk _ _ hh.2.2.2.2.2⟩
   ·exact h.elim
  | slcD sz lo hi mx =>
   simp only [runOp, runSlcD] at h ⊢
   split at h
   ·refine optInt_mono (fun a l => optInt_mono fun b l => optInt_mono fun m l hh => ?_) h
    exact ⟨hh.1, hh.2.1, hh.2.2.1, hh.2.2.2.1, hh.2.2.2.2.1, hh.2.2.2.2.2.1, hk _ _ hh.2.2.2.2.2.2⟩
   ·refine optInt_mono (fun a l => optInt_mono fun b l => optInt_mono fun m l hh => ?_) h
    refine ⟨hh.1, ?_⟩
    have h2 := hh.2
    split at h2
    ·rename_i A hA
     try simp only [hA]
     split at h2
     ·exact ⟨h2.1, h2.2.1, h2.2.2.1, h2.2.2.2.1, hk _ _ h2.2.2.2.2⟩
     ·exact ⟨h2.1, h2.2.1, h2.2.2.1, h2.2.2.2.1, h2.2.2.2.2.1, hk _ _ h2.2.2.2.2.2⟩
    ·exact h2.elim
   ·exact h.elim
  | call f => exact SC.mono h hk
  | mkRow sz z =>
   simp only [runOp] at h ⊢
   split at h
   ·exact ⟨h.1, h.2.1, h.2.2.1, h.2.2.2.1, h.2.2.2.2.1, hk _ _ h.2.2.2.2.2⟩
   ·exact h.elim
  | s2b =>
   simp only [runOp] at h ⊢
   split at h
   ·exact hk _ _ h
   ·exact h.elim
  | b2s =>
   simp only [runOp] at h ⊢
   split at h
   ·rename_i x
    cases hx : appd 0 x M with
    | none => simp only [hx] at h
    | some xs =>
     simp only [hx] at h ⊢
     cases hb : bytesOf xs with
     | none => simp only [hb] at h
     | some l => simp only [hb] at h ⊢; exact hk _ _ h
   ·exact h.elim
  | clr sz z =>
   simp only [runOp] at h ⊢
   split at h
   ·rename_i k ver skip
    cases hA : M.row k ver with
    | none => simp only [hA] at h
    | some A => simp only [hA] at h ⊢; exact ⟨h.1, h.2.1, h.2.2.1, hk _ _ h.2.2.2⟩
   ·exact h.elim
  | pcall f =>
   obtain ⟨ds, h1, r, as, h2, h3⟩ := h
   refine ⟨ds, h1, r, as, h2, h3.imp ?_ ?_⟩
   ·rintro ⟨x, g1, g2, g3, g4⟩; exact ⟨x, g1, g2, g3, hk _ _ g4⟩
   ·rintro ⟨g1, g2⟩; exact ⟨g1, hk _ _ g2⟩
  | pcallF f =>
   obtain ⟨ds, h1, x, h2, h3, h4⟩ := h
   exact ⟨ds, h1, x, h2, h3, hk _ _ h4⟩
  | callV =>
   simp only [runOp] at h ⊢
   split at h
   ·exact ⟨h.1, h.2.mono hk⟩
   ·exact ⟨h.1, h.2.mono hk⟩
   ·exact SY.mono h hk
   ·exact h.elim
  | isNilI neq =>
   simp only [runOp] at h ⊢
   split at h
   ·exact hk _ _ h
   ·exact hk _ _ h
   ·exact h.elim
  | rngS i =>
   simp only [runOp] at h ⊢
   split at h
   ·exact ⟨h.1, hk _ _ h.2⟩
   ·exact h.elim
  | nxtS =>
   simp only [runOp] at h ⊢
   split at h
   ·rename_i b
    cases hb : M.box b with
    | none => simp only [hb] at h
    | some cs =>
     simp only [hb] at h ⊢
     split at h
     ·rename_i s pos hs
      refine ⟨h.1, ?_⟩
      have h2 := h.2
      split at h2
      ·rename_i hp; rw [if_pos hp]; exact hk _ _ h2
      ·rename_i hp; rw [if_neg hp]; exact hk _ _ h2
     ·exact h.elim
   ·exact h.elim
  | inv name =>
   simp only [runOp] at h ⊢
   split at h
   ·obtain ⟨f, h1, h2, h3⟩ := h
    exact ⟨f, h1, h2, h3.mono hk⟩
   ·exact h.elim
  | mkSlR sz zs is =>
   simp only [runOp] at h ⊢
   split at h
   ·rename_i ds hds
    try simp only [hds]
    split at h
    ·rename_i xs hxs; (try simp only [hxs]); exact ⟨h.1, h.2.1, hk _ _ h.2.2⟩
    ·exact h.elim
   ·exact h.elim
  | mkMap i =>
   simp only [runOp] at h ⊢
   split at h
   ·exact ⟨h.1, hk _ _ h.2⟩
   ·exact h.elim
  | mset ks =>
   simp only [runOp] at h ⊢
   split at h
   ·rename_i b k v
    cases hb : M.box b with
    | none => simp only [hb] at h
    | some cs =>
     simp only [hb] at h ⊢
     split at h
     ·rename_i l hl
      refine ⟨h.1, ?_⟩
      have h2 := h.2
      split at h2
      ·rename_i l' h3 h4; exact hk _ _ h2
      ·exact h2.elim
     ·exact h.elim
   ·exact h.elim
  | isNil neq =>
   simp only [runOp] at h ⊢
   split at h
   ·exact ⟨fun hx => hk _ _ (h.1 hx), fun hx b => hk _ _ (h.2 hx b)⟩
   ·exact h.elim
  | panic => exact h
  | _ => simp [kd] at hx'
theorem runPO_mono {o : PO} {K K' : St → Prop} {KP : DV → Mem → Prop} {s : St} (hk : ∀ s, K s → K' s) (h : runPO C base o K KP s) : runPO C base o K' KP s := by
 rw [runPO_gval] at h ⊢
 cases hg : gval s.env o.g with
 | none => rw [hg] at h; exact h
 | some b =>
  rw [hg] at h
  cases b with
  | false => exact hk _ h
  | true => exact ⟨h.1, runOp_mono (fun v M' hh => hk _ hh) h.2⟩
theorem val_ext {s s' : St} (h : ∀ t, look s.env t = look s'.env t) (args : List Opd) : args.map s.val = args.map s'.val := by
 refine List.map_congr_left fun x _ => ?_
 cases x with
 | c d => rfl
 | t n => exact h n
theorem look_put_ext {env env' : List (Nat × PV)} (h : ∀ t, look env t = look env' t) (dst : Option Nat) (v : PV) (t : Nat) : look (put env dst v) t = look (put env' dst v) t := by
 cases dst with
 | none => exact h t
 | some d => simp only [put, look, h]
theorem runPO_ext {o : PO} {K : St → Prop} {KP : DV → Mem → Prop} (hK : Ext K) : Ext (runPO C base o K KP) := by
 intro s s' he hm h
 rw [runPO_gval] at h ⊢
 have hg : gval s'.env o.g = gval s.env o.g := by
  cases o.g with
  | none => rfl
  | some q => obtain ⟨t, want⟩ := q; simp only [gval, he]
 rw [hg, ← val_ext he, ← hm]
 cases hg2 : gval s.env o.g with
 | none => rw [hg2] at h; exact h
 | some b =>
  rw [hg2] at h
  cases b with
  | false => exact hK.use h (look_put_ext he _ _) rfl
  | true => exact ⟨h.1, runOp_mono (K := fun v M => K ⟨put s.env o.dst v, M⟩) (fun v M' hh => hK.use hh (look_put_ext he _ _) rfl) h.2⟩
def runL (C : Ctx) (base : Nat) (ps : List PO) : List Nat → (St → Prop) → (DV → Mem → Prop) → St → Prop
 | [], K, _, s => K s
 | i :: l, K, KP, s => match ps[i]? with
  | some p => runPO C base p (fun s' => runL C base ps l K KP s') KP s
  | none => False
theorem runL_ext {ps : List PO} {K : St → Prop} {KP : DV → Mem → Prop} (hK : Ext K) : ∀ l, Ext (runL C base ps l K KP)
 | [] => hK
 | i :: l => by
  intro s s' he hm h
  simp only [runL] at h ⊢
  split at h
  ·rename_i p hp; exact runPO_ext (runL_ext hK l) s s' he hm h
  ·exact h.elim
theorem runL_front {ps : List PO} {i : Nat} {p : PO} (hp : ps[i]? = some p) {K : St → Prop} {KP : DV → Mem → Prop} (hK : Ext K) {l2 : List Nat} : ∀ {l1 : List Nat} (_ : ∀ j ∈ l1, ∀ q, ps[j]? = some q → (kd q.op q.fl).swap (kd p.op p.fl) = true ∧ apartPO q p = true) {s : St},
  runL C base ps (l1 ++ i :: l2) K KP s → runPO C base p (fun s' => runL C base ps (l1 ++ l2) K KP s') KP s
 | [], _, s, h => by simpa [runL, hp] using h
 | j :: l1, hc, s, h => by
  simp only [List.cons_append, runL] at h ⊢
  split at h
  ·rename_i q hq
   obtain ⟨c1, c2⟩ := hc j (by simp) q hq
   try simp only [hq]
   exact swap_PO c1 c2 (runL_ext hK _) s (runPO_mono (fun s' h' => runL_front hp hK (fun j' hj' => hc j' (by simp [hj'])) h') h)
  ·exact h.elim
theorem runL_range {ps : List PO} {K : St → Prop} {KP : DV → Mem → Prop} : ∀ (n k : Nat) (s : St), k + n = ps.length → runPOs C base (ps.drop k) K KP s → runL C base ps (List.range' k n) K KP s
 | 0, k, s, hk, h => by
  rw [List.drop_eq_nil_of_le (by omega)] at h
  exact h
 | n + 1, k, s, hk, h => by
  have hlt : k < ps.length := by omega
  rw [List.drop_eq_getElem_cons hlt] at h
  simp only [List.range'_succ, runL, List.getElem?_eq_getElem hlt]
  exact runPO_mono (fun s' h' => runL_range n (k + 1) s' (by omega) h') h
end
def predsOf (o : Oper) : List Nat := (o.after.toList.filter (Region.binds .any)).map (·.on)
def maskOf (acc : List Nat) (ps : List Nat) : Nat := ps.foldl (fun m k => m ||| (1 <<< k) ||| acc.getD k 0) 0
def closGo : List (List Nat) → List Nat → List Nat
 | [], acc => acc
 | ps :: rest, acc => closGo rest (acc ++ [maskOf acc ps])
def pairsOk (clo : List Nat) (ps : List PO) : Bool :=
 (List.range ps.length).all fun i => (List.range i).all fun j => (clo.getD i 0).testBit j || match ps[j]?, ps[i]? with
  | some q, some p => (kd q.op q.fl).swap (kd p.op p.fl) && apartPO q p
  | _, _ => false
def okDraw (ops : Array Oper) (ps : List PO) : Bool :=
 let pre := ops.toList.map predsOf
 (pre.zipIdx.all fun (l, i) => l.all fun k => decide (k < i)) && pairsOk (closGo pre []) ps
inductive Rch (pre : List (List Nat)) : Nat → Nat → Prop
 | one {j i : Nat} {l : List Nat} (hl : pre[i]? = some l) (h : j ∈ l) : Rch pre j i
 | step {j k i : Nat} {l : List Nat} (hl : pre[i]? = some l) (h : k ∈ l) (t : Rch pre j k) : Rch pre j i
theorem maskOf_spec {pre : List (List Nat)} {acc : List Nat} {i : Nat} {l : List Nat} (hl : pre[i]? = some l) (hacc : ∀ k j, (acc.getD k 0).testBit j = true → Rch pre j k) {j : Nat} (h : (maskOf acc l).testBit j = true) : Rch pre j i := by
 have key : ∀ (l' : List Nat) (m : Nat), (∀ k ∈ l', k ∈ l) → (m.testBit j = true → Rch pre j i) → (l'.foldl (fun m k => m ||| (1 <<< k) ||| acc.getD k 0) m).testBit j = true → Rch pre j i := by
  intro l'
  induction l' with
  | nil => intro m _ hm h; exact hm h
  | cons k l' ih =>
   intro m hk hm h
   refine ih _ (fun k' hk' => hk k' (by simp [hk'])) (fun hb => ?_) h
   simp only [Nat.testBit_or, Bool.or_eq_true] at hb
   rcases hb with (hb | hb) | hb
   ·exact hm hb
   ·rw [Nat.one_shiftLeft, Nat.testBit_two_pow] at hb
    simp only [decide_eq_true_eq] at hb
    subst hb
    exact .one hl (hk _ (by simp))
   ·exact .step hl (hk k (by simp)) (hacc k j hb)
 exact key l 0 (fun _ h => h) (fun h => by simp at h) h
theorem closGo_spec {pre : List (List Nat)} : ∀ (rest : List (List Nat)) (acc : List Nat), (∀ j, rest[j]? = pre[acc.length + j]?) → (∀ k j, (acc.getD k 0).testBit j = true → Rch pre j k) →
  ∀ k j, ((closGo rest acc).getD k 0).testBit j = true → Rch pre j k
 | [], acc, _, h => h
 | l :: rest, acc, hr, h => by
  refine closGo_spec rest _ (fun j => ?_) fun k j hb => ?_
  ·have := hr (j + 1)
   simp only [List.getElem?_cons_succ] at this
   rw [this]; simp only [List.length_append, List.length_singleton]; congr 1; omega
  ·by_cases hk : k < acc.length
   ·have : (acc ++ [maskOf acc l]).getD k 0 = acc.getD k 0 := by simp [List.getD, List.getElem?_append_left hk]
    rw [this] at hb
    exact h k j hb
   ·by_cases hk2 : k = acc.length
    ·subst hk2
     have : (acc ++ [maskOf acc l]).getD acc.length 0 = maskOf acc l := by simp [List.getD]
     rw [this] at hb
     exact maskOf_spec (by have := hr 0; simpa using this.symm) h hb
    ·have : (acc ++ [maskOf acc l]).getD k 0 = 0 := by
      rw [List.getD, List.getElem?_eq_none (by simp; omega)]; rfl
     rw [this] at hb
     simp at hb
section
variable {C : Ctx} {X : Nat → Prop} {w : World} {E : Emb} {lo : Lo} {ro : Option Nat}
structure Done (ops : Array Oper) (listed : Array Bool) (rest : List Nat) : Prop where
 size : listed.size = ops.size
 mem : ∀ j, j ∈ rest ↔ (j < ops.size ∧ listed.getD j true = false)
 sorted : rest.Pairwise (· < ·)
 closed : ∀ j o, ops[j]? = some o → listed.getD j false = true → ∀ k ∈ predsOf o, listed.getD k false = true
theorem mem_preds {o : Oper} {k : Nat} : k ∈ predsOf o ↔ ∃ e ∈ o.after, Region.binds .any e = true ∧ e.on = k := by
 simp [predsOf, and_assoc]
theorem rch_listed {ops : Array Oper} {listed : Array Bool} {rest : List Nat} (hd : Done ops listed rest) {j i : Nat} (h : Rch (ops.toList.map predsOf) j i) :
  (∀ o, ops[i]? = some o → ∀ k ∈ predsOf o, listed.getD k false = true) → listed.getD j false = true := by
 induction h with
 | one hl h =>
  intro hi
  simp only [List.getElem?_map, Option.map_eq_some_iff, Array.getElem?_toList] at hl
  obtain ⟨o, ho, rfl⟩ := hl
  exact hi o ho _ h
 | step hl h t ih =>
  intro hi
  simp only [List.getElem?_map, Option.map_eq_some_iff, Array.getElem?_toList] at hl
  obtain ⟨o, ho, rfl⟩ := hl
  have hk := hi o ho _ h
  exact ih fun o' ho' => hd.closed _ o' ho' hk
theorem any_sound {n : Nat} {ops : Array Oper} (hfx : ∀ q, lo.fx = some q → ∀ o ∈ ops, o.dst ≠ some q.1) {ps : List PO} (hok : okPOs C.P n ops ops.toList ps = true) (hdr : okDraw ops ps = true) {base : Nat} {K : St → Prop} {KP : DV → Mem → Prop} {Q : Exit → Act → World → Prop} {w₀ : World} {M₀ : Mem} {E₀ : Emb}
  (hext : Ext K)
  (hK : ∀ s' a' w' E', K s' → InS C X lo n s' a' w' E' → From w₀ M₀ E₀ w' s'.mem E' → Q .normal a' w')
  (hKP : ∀ d M' a' w' E' v, KP d M' → Sim C X w' M' E' → From w₀ M₀ E₀ w' M' E' → RepD w' (away X M' E') v d → okD lo X a'.defers w' → (∀ q, lo.fx = some q → a'.eval (.tmp q.1) = q.2) → Q (.panic [{ v, recovered := false }]) a' w') :
  ∀ (fuel : Nat) (rest : List Nat) (listed : Array Bool), fuel = rest.length → Done ops listed rest → ∀ (s : St) (a : Act) (w : World) (E : Emb), InS C X lo n s a w E → From w₀ M₀ E₀ w s.mem E → runL C base ps rest K KP s →
   wpAnyIn (RF ro) 0 C.P .any ops Q fuel listed a w := by
 obtain ⟨hlen, hget⟩ := okPOs_get hok
 simp only [Array.length_toList] at hlen
 simp only [okDraw, Bool.and_eq_true] at hdr
 obtain ⟨hpre, hpairs⟩ := hdr
 have hlt : ∀ i o, ops[i]? = some o → ∀ k ∈ predsOf o, k < i := by
  intro i o ho k hk
  simp only [List.all_eq_true] at hpre
  have := hpre (predsOf o, i) (by
   rw [List.mem_zipIdx_iff_getElem?]
   simp [ho])
  simp only [List.all_eq_true, decide_eq_true_eq] at this
  exact this k hk
 have hclo := closGo_spec (pre := ops.toList.map predsOf) (ops.toList.map predsOf) [] (fun j => by simp) (fun k j h => by simp at h)
 have hpair : ∀ i j q p, j < i → ps[j]? = some q → ps[i]? = some p → Rch (ops.toList.map predsOf) j i ∨ ((kd q.op q.fl).swap (kd p.op p.fl) = true ∧ apartPO q p = true) := by
  intro i j q p hji hq hp
  simp only [pairsOk, List.all_eq_true, List.mem_range, Bool.or_eq_true] at hpairs
  have hi : i < ps.length := (List.getElem?_eq_some_iff.1 hp).1
  rcases hpairs i hi j hji with h | h
  ·exact .inl (hclo i j h)
  ·rw [hq, hp] at h
   simp only [Bool.and_eq_true] at h
   exact .inr h
 intro fuel
 induction fuel with
 | zero =>
  intro rest listed hf hd s a w E h hfr hr
  have : rest = [] := List.length_eq_zero_iff.1 hf.symm
  subst this
  refine ⟨?_, hK s a w E hr h hfr⟩
  cases hrd : Region.ready .any ops listed with
  | nil => rfl
  | cons i l =>
   have hmem : i ∈ Region.ready .any ops listed := by rw [hrd]; simp
   rw [mem_ready] at hmem
   obtain ⟨h0, o, ho, _⟩ := hmem
   have := (hd.mem i).2 ⟨(Array.getElem?_eq_some_iff.1 ho).1, h0⟩
   cases this
 | succ fuel ih =>
  intro rest listed hf hd s a w E h hfr hr
  refine ⟨fun hnil => ?_, fun i hi => ?_⟩
  ·exfalso
   cases rest with
   | nil => simp at hf
   | cons i l =>
    obtain ⟨hi1, hi2⟩ := (hd.mem i).1 (by simp)
    have : i ∈ Region.ready .any ops listed := by
     rw [mem_ready]
     refine ⟨hi2, ops[i], Array.getElem?_eq_getElem hi1, fun e he hb => ?_⟩
     have hk := hlt i ops[i] (Array.getElem?_eq_getElem hi1) e.on (mem_preds.2 ⟨e, he, hb, rfl⟩)
     cases hl : listed.getD e.on false with
     | true => rfl
     | false =>
      have hsz : e.on < listed.size := by rw [hd.size]; omega
      have h3 : listed.getD e.on true = false := by
       simp only [Array.getD_eq_getD_getElem?, Array.getElem?_eq_getElem hsz, Option.getD_some] at hl ⊢; exact hl
      have hin := (hd.mem e.on).2 ⟨by omega, h3⟩
      rcases List.mem_cons.1 hin with heq | hin
      ·omega
      ·have := (List.pairwise_cons.1 hd.sorted).1 _ hin
       omega
    rw [hnil] at this; cases this
  ·obtain ⟨hi0, o, ho, hall⟩ := mem_ready.1 hi
   have hi1 : i < ops.size := (Array.getElem?_eq_some_iff.1 ho).1
   have hin := (hd.mem i).2 ⟨hi1, hi0⟩
   obtain ⟨l1, l2, rfl⟩ := List.append_of_mem hin
   have hpi : i < ps.length := by omega
   obtain ⟨o', ho', hokp⟩ := hget i ps[i] (List.getElem?_eq_getElem hpi)
   rw [Array.getElem?_toList, ho] at ho'
   cases ho'
   have hsorted := List.pairwise_append.1 hd.sorted
   have hfront := runL_front (C := C) (base := base) (List.getElem?_eq_getElem hpi) hext (l1 := l1) (l2 := l2) (fun j hj q hq => by
    have hji : j < i := hsorted.2.2 j hj i (by simp)
    rcases hpair i j q ps[i] hji hq (List.getElem?_eq_getElem hpi) with hr | hc
    ·exfalso
     have hl := rch_listed hd hr fun o2 ho2 k hk => by
      rw [ho] at ho2; cases ho2
      obtain ⟨e, he, hb, rfl⟩ := mem_preds.1 hk
      exact hall e he hb
     have hj' := (hd.mem j).1 (by simp [hj])
     have hsz : j < listed.size := by rw [hd.size]; exact hj'.1
     have h3 := hj'.2
     simp only [Array.getD_eq_getD_getElem?, Array.getElem?_eq_getElem hsz, Option.getD_some] at hl h3
     rw [hl] at h3; cases h3
    ·exact hc) hr
   refine op_sound hfx ho hokp h hfront (fun s' a' w' E' hs' hi' hf' => ?_) (fun d M' a' w' E' v h1 h2 h3 h4 h5 => hKP d M' a' w' E' v h1 h2 (hfr.trans h3) h4 h5)
   refine ih (l1 ++ l2) (listed.setIfInBounds i true) (by simp at hf ⊢; omega) ?_ s' a' w' E' hi' (hfr.trans hf') hs'
   have hnd := hd.sorted
   refine ⟨by simp [hd.size], fun j => ?_, ?_, fun j o2 ho2 hj2 k hk => ?_⟩
   ·by_cases hji : j = i
    ·subst hji
     constructor
     ·intro hj
      exfalso
      rcases List.mem_append.1 hj with hj | hj
      ·exact absurd (hsorted.2.2 j hj j (by simp)) (by omega)
      ·exact absurd ((List.pairwise_cons.1 hsorted.2.1).1 j hj) (by omega)
     ·rintro ⟨h1, h2⟩
      exfalso
      have hsz : j < listed.size := by rw [hd.size]; exact h1
      simp [hsz] at h2
    ·rw [getD_set_ne true (Ne.symm hji)]
     have := hd.mem j
     simp only [List.mem_append, List.mem_cons, hji, false_or] at this ⊢
     exact this
   ·refine List.pairwise_append.2 ⟨hsorted.1, (List.pairwise_cons.1 hsorted.2.1).2, fun x hx y hy => hsorted.2.2 x hx y (by simp [hy])⟩
   ·by_cases hji : j = i
    ·subst hji
     rw [ho] at ho2; cases ho2
     obtain ⟨e, he, hb, rfl⟩ := mem_preds.1 hk
     exact getD_set_true (hall e he hb)
    ·rw [getD_set_ne false (Ne.symm hji)] at hj2
     exact getD_set_true (hd.closed j o2 ho2 hj2 k hk)
theorem draw_sound {n : Nat} {ops : Array Oper} (hfx : ∀ q, lo.fx = some q → ∀ o ∈ ops, o.dst ≠ some q.1) {ps : List PO} (hm : C.P.follows .mixedOrders = true) (hok : okPOs C.P n ops ops.toList ps = true) (hdr : okDraw ops ps = true) {base id : Nat} {K : St → Prop} {KP : DV → Mem → Prop} {Q : Exit → Act → World → Prop}
  {s : St} {a : Act} {w₀ : World} {M₀ : Mem} {E₀ : Emb} (hext : Ext K) (h : InS C X lo n s a w E) (hf : From w₀ M₀ E₀ w s.mem E) (hr : runPOs C base ps K KP s)
  (hK : ∀ s' a' w' E', K s' → InS C X lo n s' a' w' E' → From w₀ M₀ E₀ w' s'.mem E' → Q .normal a' w')
  (hKP : ∀ d M' a' w' E' v, KP d M' → Sim C X w' M' E' → From w₀ M₀ E₀ w' M' E' → RepD w' (away X M' E') v d → okD lo X a'.defers w' → (∀ q, lo.fx = some q → a'.eval (.tmp q.1) = q.2) → Q (.panic [{ v, recovered := false }]) a' w') :
  (Code.region id ops true).wpIn (RF ro) 0 C.P Q a w := by
 refine wpIn_region_any hm ?_
 have hlen : ops.size = ps.length := by simpa using (okPOs_get hok).1
 have hl : Later w { w with drawn := w.drawn + 1 } := ⟨rfl, rfl, rfl, Nat.le_refl _, fun _ _ => rfl⟩
 have hrl := runL_range (C := C) (base := base) (ps := ps) (K := K) (KP := KP) ps.length 0 s (by simp) (by simpa using hr)
 refine any_sound (C := C) (X := X) hfx hok hdr hext hK hKP ops.size (List.range' 0 ps.length) (Array.replicate ops.size false) (by simp [hlen]) ?_ s a _ E (h.later hl) (hf.trans (hl.from s.mem E)) hrl
 refine ⟨by simp, fun j => ?_, ?_, fun j o _ hj => ?_⟩
 ·simp only [List.mem_range'_1, Nat.zero_le, true_and, Nat.zero_add, ← hlen]
  constructor
  ·intro hj; exact ⟨hj, by simp [hj]⟩
  ·exact fun hj => hj.1
 ·exact List.pairwise_lt_range' ..
 ·exfalso
  simp [Array.getElem?_replicate] at hj
  split at hj <;> simp at hj
end
end Go.Am
