/-
  Part 3 of the proof of a law of plates, the law itself: an abstract machine over the model, contracts of functions, plain laws.
  Conditions: none.
-/
import Derived.Test.YticjmjdcggomgaaGreatDoorPlateLessL02
set_option linter.all false
namespace Go.Tel
open Go.Am
structure Tn.low (q : Tn) : Prop where
 den : 1 ≤ q.den
 gcd : Nat.gcd q.num.natAbs q.den.natAbs = 1
theorem turn_parts (n d : Int) : n = (Nat.gcd n.natAbs d.natAbs : Nat) * (turnS n d).num ∧ d = (Nat.gcd n.natAbs d.natAbs : Nat) * (turnS n d).den := by
 have h1 : ((Nat.gcd n.natAbs d.natAbs : Nat) : Int) ∣ n := Int.ofNat_dvd_left.2 (Nat.gcd_dvd_left _ _)
 have h2 : ((Nat.gcd n.natAbs d.natAbs : Nat) : Int) ∣ d := Int.ofNat_dvd_left.2 (Nat.gcd_dvd_right _ _)
 exact ⟨(Int.mul_tdiv_cancel' h1).symm, (Int.mul_tdiv_cancel' h2).symm⟩
theorem turn_low {n d : Int} (h : 1 ≤ d) : (turnS n d).low := by
 obtain ⟨h1, h2⟩ := turn_parts n d
 have hg : 0 < Nat.gcd n.natAbs d.natAbs := Nat.gcd_pos_of_pos_right _ (by omega)
 have ho := turnS n d
 constructor
 ·refine Classical.byContradiction fun hh => ?_
  have : ((Nat.gcd n.natAbs d.natAbs : Nat) : Int) * (turnS n d).den ≤ 0 := Int.mul_nonpos_of_nonneg_of_nonpos (by omega) (by omega)
  omega
 ·have e1 : n.natAbs = Nat.gcd n.natAbs d.natAbs * (turnS n d).num.natAbs := by
   have := congrArg Int.natAbs h1
   rwa [Int.natAbs_mul, Int.natAbs_natCast] at this
  have e2 : d.natAbs = Nat.gcd n.natAbs d.natAbs * (turnS n d).den.natAbs := by
   have := congrArg Int.natAbs h2
   rwa [Int.natAbs_mul, Int.natAbs_natCast] at this
  have e3 : Nat.gcd n.natAbs d.natAbs * Nat.gcd (turnS n d).num.natAbs (turnS n d).den.natAbs = Nat.gcd n.natAbs d.natAbs := by
   rw [← Nat.gcd_mul_left, ← e1, ← e2]
  exact Nat.eq_of_mul_eq_mul_left hg (by rw [e3, Nat.mul_one])
theorem turn_ne {n d : Int} (h : n ≠ 0) : (turnS n d).num ≠ 0 := by
 intro hh
 have := (turn_parts n d).1
 rw [hh, Int.mul_zero] at this
 exact h this
theorem turn_le {n d : Int} : (turnS n d).num.natAbs ≤ n.natAbs ∧ (turnS n d).den.natAbs ≤ d.natAbs := ⟨tdiv_bd _ _, tdiv_bd _ _⟩
def Piece.tied (p : Piece) (a b : Int) : Bool := p.mesh a b || p.sleeved a b
def Piece.stp (p : Piece) (a b : Int) (q : Tn) : Tn := (p.joined a b q).1
theorem joined_2 (p : Piece) (a b : Int) (q : Tn) : (p.joined a b q).2 = p.tied a b := by
 rw [Piece.joined, Piece.tied]
 cases p.mesh a b <;> rfl
inductive Piece.Re (p : Piece) (w : Nat) : Nat → Prop
 | refl : p.Re w w
 | step {a b : Nat} : p.Re w a → b < p.ws.length → b ≠ a → p.tied a b = true → p.Re w b
theorem Re_lt {p : Piece} {w : Nat} (hw : w < p.ws.length) {a : Nat} (h : p.Re w a) : a < p.ws.length := by
 cases h with
 | refl => exact hw
 | step _ h _ _ => exact h
def Piece.Agr (p : Piece) (T : Nat → Tn) (a b : Nat) : Prop := (p.mesh a b && p.sleeved a b) = false ∧ (p.tied a b = true → T b = p.stp a b (T a))
structure Piece.Lab (p : Piece) (w : Nat) (T : Nat → Tn) : Prop where
 one : T w = ⟨1, 1⟩
 agr : ∀ a b : Nat, p.Re w a → b < p.ws.length → b ≠ a → p.Agr T a b
theorem Lab_uniq {p : Piece} {w : Nat} {T S : Nat → Tn} (h1 : p.Lab w T) (h2 : p.Lab w S) {a : Nat} (h : p.Re w a) : T a = S a := by
 induction h with
 | refl => rw [h1.one, h2.one]
 | step h3 h4 h5 h6 ih =>
  rw [(h1.agr _ _ h3 h4 h5).2 h6, (h2.agr _ _ h3 h4 h5).2 h6, ih]
section
variable {p : Piece} {M : Nat} (hM : ∀ w ∈ p.ws, 1 ≤ w.teeth ∧ w.teeth ≤ M)
include hM
theorem wh_teeth {a : Nat} (ha : a < p.ws.length) : 1 ≤ (p.wh a).teeth ∧ (p.wh a).teeth ≤ M := hM _ (getD_mem (by simpa using ha))
theorem stp_low {a b : Nat} (hb : b < p.ws.length) {q : Tn} (hq : q.low) : (p.stp a b q).low := by
 have := (wh_teeth hM hb).1
 rw [Piece.stp, Piece.joined]
 split
 ·refine turn_low ?_
  have := Int.mul_le_mul hq.den this (by omega) (by have := hq.den; omega)
  omega
 ·exact hq
theorem stp_ne {a b : Nat} (ha : a < p.ws.length) {q : Tn} (hq : q.num ≠ 0) : (p.stp a b q).num ≠ 0 := by
 have := (wh_teeth hM ha).1
 rw [Piece.stp, Piece.joined]
 split
 ·exact turn_ne (Int.mul_ne_zero (by omega) (by omega))
 ·exact hq
theorem stp_le {a b : Nat} (ha : a < p.ws.length) (hb : b < p.ws.length) (h1 : 1 ≤ M) {q : Tn} {B : Nat} (hq : q.num.natAbs ≤ B ∧ q.den.natAbs ≤ B) : (p.stp a b q).num.natAbs ≤ B * M ∧ (p.stp a b q).den.natAbs ≤ B * M := by
 have ta := wh_teeth hM ha
 have tb := wh_teeth hM hb
 have hBM : B ≤ B * M := Nat.le_mul_of_pos_right _ h1
 rw [Piece.stp, Piece.joined]
 split
 ·obtain ⟨l1, l2⟩ := turn_le (n := -q.num * (p.wh a).teeth) (d := q.den * (p.wh b).teeth)
  rw [Int.natAbs_mul, Int.natAbs_neg] at l1
  rw [Int.natAbs_mul] at l2
  have k1 := Nat.mul_le_mul hq.1 (show (p.wh a).teeth.natAbs ≤ M by omega)
  have k2 := Nat.mul_le_mul hq.2 (show (p.wh b).teeth.natAbs ≤ M by omega)
  exact ⟨Nat.le_trans l1 k1, Nat.le_trans l2 k2⟩
 ·exact ⟨Nat.le_trans hq.1 hBM, Nat.le_trans hq.2 hBM⟩
end
def unk (out : List Tn) : Nat := out.countP fun q => q.num == 0
theorem unk_set {out : List Tn} {b : Nat} {v : Tn} (hb : b < out.length) (h0 : (out.getD b default).num = 0) (hv : v.num ≠ 0) : unk (out.set b v) + 1 = unk out := by
 have hg : out.getD b default = out[b] := by rw [List.getD_eq_getElem?_getD, List.getElem?_eq_getElem hb]; rfl
 rw [hg] at h0
 rw [unk, List.countP_set hb, ← unk]
 have e1 : (out[b].num == 0) = true := beq_iff_eq.2 h0
 have e2 : (v.num == 0) = false := beq_eq_false_iff_ne.2 hv
 have : 0 < unk out := List.countP_pos_iff.2 ⟨out[b], List.getElem_mem hb, e1⟩
 simp only [e1, e2, if_true, Bool.false_eq_true, if_false]
 omega
theorem getD_set {α : Type} [Inhabited α] {l : List α} {b : Nat} {v : α} (hb : b < l.length) (c : Nat) : (l.set b v).getD c default = if c = b then v else l.getD c default := by
 rw [List.getD_eq_getElem?_getD, List.getElem?_set]
 by_cases h : c = b
 ·subst h; simp [hb]
 ·rw [if_neg (fun e => h e.symm), if_neg h, List.getD_eq_getElem?_getD]
structure BI (p : Piece) (w M : Nat) (out : List Tn) (left : List Int) (done : Nat → Prop) (cur : Nat → Prop) : Prop where
 len : out.length = p.ws.length
 one : out.getD w default = ⟨1, 1⟩
 zer : ∀ b, b < p.ws.length → (out.getD b default).num = 0 → out.getD b default = ⟨0, 1⟩
 re : ∀ b, b < p.ws.length → (out.getD b default).num ≠ 0 → p.Re w b
 low : ∀ b, b < p.ws.length → (out.getD b default).num ≠ 0 → (out.getD b default).low
 bd : ∀ b, b < p.ws.length → (out.getD b default).num ≠ 0 → (out.getD b default).num.natAbs ≤ M ^ (p.ws.length - 1 - unk out) ∧ (out.getD b default).den.natAbs ≤ M ^ (p.ws.length - 1 - unk out)
 lft : ∀ x ∈ left, p.isW x ∧ (out.getD x.toNat default).num ≠ 0
 cov : ∀ b : Nat, b < p.ws.length → (out.getD b default).num ≠ 0 → (b : Int) ∈ left ∨ done b ∨ cur b
 lab : ∀ T, p.Lab w T → ∀ b, b < p.ws.length → (out.getD b default).num ≠ 0 → out.getD b default = T b
 dn : ∀ a, done a → a < p.ws.length ∧ (out.getD a default).num ≠ 0 ∧ ∀ b, b < p.ws.length → b ≠ a → p.Agr (fun i => out.getD i default) a b
section
variable {p : Piece} {w M : Nat} (hM : ∀ w ∈ p.ws, 1 ≤ w.teeth ∧ w.teeth ≤ M) (h1M : 1 ≤ M) (hw : w < p.ws.length)
include hM h1M hw
theorem agr_set {out : List Tn} {b : Nat} {v : Tn} (hb : b < out.length) (h0 : (out.getD b default).num = 0) {a c : Nat} (ha : a < p.ws.length) (hc : c < p.ws.length) (han : (out.getD a default).num ≠ 0) (h : p.Agr (fun i => out.getD i default) a c) :
  p.Agr (fun i => (out.set b v).getD i default) a c := by
 refine ⟨h.1, fun ht => ?_⟩
 have hh := h.2 ht
 have hab : a ≠ b := fun e => han (by rw [e]; exact h0)
 have hcn : (out.getD c default).num ≠ 0 := by rw [show out.getD c default = _ from hh]; exact stp_ne hM ha han
 have hcb : c ≠ b := fun e => hcn (by rw [e]; exact h0)
 simp only [getD_set hb, if_neg hab, if_neg hcb]
 exact hh
theorem BI.set {out : List Tn} {left : List Int} {done cur : Nat → Prop} (I : BI p w M out left done cur) {a b : Nat} (ha : a < p.ws.length) (han : (out.getD a default).num ≠ 0) (hb : b < p.ws.length) (hba : b ≠ a) (ht : p.tied a b = true) (h0 : (out.getD b default).num = 0) :
  BI p w M (out.set b (p.stp a b (out.getD a default))) (left ++ [(b : Int)]) done cur ∧ unk (out.set b (p.stp a b (out.getD a default))) + 1 = unk out := by
 have hbo : b < out.length := by rw [I.len]; exact hb
 have hvn := stp_ne hM ha (b := b) han
 have hu := unk_set hbo h0 hvn
 have hul : unk out ≤ p.ws.length - 1 := by
  have hlt : unk out < out.length := by
   refine Nat.lt_of_le_of_ne List.countP_le_length fun e => ?_
   have := List.countP_eq_length.1 e (out.getD a default) (getD_mem (by rw [I.len]; exact ha))
   exact han (beq_iff_eq.1 this)
  rw [I.len] at hlt; omega
 have hlow := I.low a ha han
 have hbd := I.bd a ha han
 have hle := stp_le hM ha hb h1M hbd
 have hpow : M ^ (p.ws.length - 1 - unk (out.set b (p.stp a b (out.getD a default)))) = M ^ (p.ws.length - 1 - unk out) * M := by
  rw [← Nat.pow_succ]; congr 1; omega
 have hre : p.Re w b := .step (I.re a ha han) hb hba ht
 refine ⟨{ len := by rw [List.length_set]; exact I.len, one := ?_, zer := fun c hc hz => ?_, re := fun c hc hn => ?_, low := fun c hc hn => ?_, bd := fun c hc hn => ?_, lft := fun x hx => ?_, cov := fun c hc hn => ?_, lab := fun T hT c hc hn => ?_, dn := fun c hc => ?_ }, hu⟩
 ·have : w ≠ b := fun e => by rw [← e, I.one] at h0; cases h0
  rw [getD_set hbo, if_neg this]; exact I.one
 ·rw [getD_set hbo] at hz ⊢
  split at hz
  ·exact absurd hz hvn
  ·rename_i hcb
   rw [if_neg hcb]; exact I.zer c hc hz
 ·rw [getD_set hbo] at hn
  split at hn
  ·rename_i e; rw [e]; exact hre
  ·exact I.re c hc hn
 ·rw [getD_set hbo] at hn ⊢
  split
  ·exact stp_low hM hb hlow
  ·rename_i hcb
   rw [if_neg hcb] at hn; exact I.low c hc hn
 ·rw [hpow]
  rw [getD_set hbo] at hn ⊢
  split
  ·exact hle
  ·rename_i hcb
   rw [if_neg hcb] at hn
   have := I.bd c hc hn
   have hk : M ^ (p.ws.length - 1 - unk out) ≤ M ^ (p.ws.length - 1 - unk out) * M := Nat.le_mul_of_pos_right _ h1M
   omega
 ·rcases List.mem_append.1 hx with hx | hx
  ·obtain ⟨x1, x2⟩ := I.lft x hx
   refine ⟨x1, ?_⟩
   rw [getD_set hbo]
   split
   ·exact hvn
   ·exact x2
  ·rw [List.mem_singleton.1 hx]
   refine ⟨⟨by omega, by simpa using hb⟩, ?_⟩
   rw [getD_set hbo, Int.toNat_natCast, if_pos rfl]; exact hvn
 ·rw [getD_set hbo] at hn
  split at hn
  ·rename_i e; left; rw [e]; simp
  ·rcases I.cov c hc hn with h | h
   ·left; simp [h]
   ·right; exact h
 ·rw [getD_set hbo] at hn ⊢
  split
  ·rename_i e
   rw [e, (hT.agr a b (I.re a ha han) hb hba).2 ht, ← I.lab T hT a ha han]
  ·rename_i hcb
   rw [if_neg hcb] at hn; exact I.lab T hT c hc hn
 ·obtain ⟨d1, d2, d3⟩ := I.dn c hc
  refine ⟨d1, ?_, fun e he hne => agr_set hM h1M hw hbo h0 d1 he d2 (d3 e he hne)⟩
  rw [getD_set hbo]
  split
  ·exact hvn
  ·exact d2
theorem rtIn_spec {done : Nat → Prop} {a : Nat} (ha : a < p.ws.length) (hB : M ^ (p.ws.length - 1) ≤ 1000000000000000) (hnl : p.ws.length ≤ 1000) :
  ∀ (k b : Nat) (out : List Tn) (left : List Int), b + k = p.ws.length → BI p w M out left done (fun c => c = a) → (out.getD a default).num ≠ 0 → (∀ c, c < b → c ≠ a → p.Agr (fun i => out.getD i default) a c) → left.length + unk out ≤ p.ws.length →
  match p.rtIn a k b out left with
  | .go out' left' => BI p w M out' left' done (fun c => c = a) ∧ (out'.getD a default).num ≠ 0 ∧ (∀ c, c < p.ws.length → c ≠ a → p.Agr (fun i => out'.getD i default) a c) ∧ left'.length + unk out' = left.length + unk out
  | .locked _ _ => ¬ ∃ T, p.Lab w T
  | .none => False
 | 0, b, out, left, hbk, I, han, hc, _ => by
  rw [Piece.rtIn]
  exact ⟨I, han, fun c hcl hne => hc c (by omega) hne, rfl⟩
 | k + 1, b, out, left, hbk, I, han, hc, hu => by
  have hb : b < p.ws.length := by omega
  have hre := I.re a ha han
  rw [Piece.rtIn]
  by_cases e : (b : Int) = (a : Int)
  ·rw [if_pos e]
   exact rtIn_spec ha hB hnl k (b + 1) out left (by omega) I han (fun c h1 h2 => hc c (by omega) h2) hu
  rw [if_neg e]
  have hba : b ≠ a := by omega
  by_cases hms : (p.mesh a b && p.sleeved a b) = true
  ·rw [if_pos hms]
   rintro ⟨T, hT⟩
   have := (hT.agr a b hre hb hba).1
   rw [hms] at this; cases this
  rw [if_neg hms]
  rw [Bool.not_eq_true] at hms
  have hlow := I.low a ha han
  have hbd := I.bd a ha han
  have hpw : M ^ (p.ws.length - 1 - unk out) ≤ M ^ (p.ws.length - 1) := Nat.pow_le_pow_right h1M (by omega)
  have hok : (tnOk (out.getD (a : Int).toNat default) && decide (left.length ≤ 1000)) = true := by
   rw [Int.toNat_natCast, tnOk]
   have := hlow.den
   simp only [Bool.and_eq_true, decide_eq_true_eq]
   omega
  rw [if_pos hok, joined_2]
  have hstp : (p.joined a b (out.getD (a : Int).toNat default)).1 = p.stp a b (out.getD a default) := by rw [Piece.stp, Int.toNat_natCast]
  rw [hstp]
  by_cases ht : p.tied a b = true
  case neg =>
   rw [Bool.not_eq_true] at ht
   rw [if_pos ht]
   refine rtIn_spec ha hB hnl k (b + 1) out left (by omega) I han (fun c h1 h2 => ?_) hu
   by_cases hcb : c = b
   ·subst hcb
    exact ⟨hms, fun h => by rw [ht] at h; cases h⟩
   ·exact hc c (by omega) h2
  rw [if_neg (by rw [ht]; decide)]
  by_cases h0 : (out.getD b default).num = 0
  ·rw [if_pos h0]
   obtain ⟨I', hu'⟩ := I.set hM h1M hw ha han hb hba ht h0
   have hbo : b < out.length := by rw [I.len]; exact hb
   have han' : ((out.set b (p.stp a b (out.getD a default))).getD a default).num ≠ 0 := by rw [getD_set hbo, if_neg (Ne.symm hba)]; exact han
   have := rtIn_spec ha hB hnl k (b + 1) _ _ (by omega) I' han' (fun c h1 h2 => by
    by_cases hcb : c = b
    ·subst hcb
     refine ⟨hms, fun _ => ?_⟩
     simp only [getD_set hbo, if_neg (Ne.symm hba), if_true]
    ·exact agr_set hM h1M hw hbo h0 ha (by omega) han (hc c (by omega) h2)) (by rw [List.length_append, List.length_singleton]; omega)
   revert this
   generalize p.rtIn a k (b + 1) _ _ = R
   intro this
   cases R with
   | go o l =>
    obtain ⟨t1, t2, t3, t4⟩ := this
    exact ⟨t1, t2, t3, by rw [t4, List.length_append, List.length_singleton]; omega⟩
   | locked x y => exact this
   | none => exact this
  rw [if_neg h0]
  by_cases hq : out.getD b default = p.stp a b (out.getD a default)
  ·rw [if_pos hq]
   refine rtIn_spec ha hB hnl k (b + 1) out left (by omega) I han (fun c h1 h2 => ?_) hu
   by_cases hcb : c = b
   ·subst hcb
    exact ⟨hms, fun _ => hq⟩
   ·exact hc c (by omega) h2
  ·rw [if_neg hq]
   rintro ⟨T, hT⟩
   exact hq (by rw [I.lab T hT b hb h0, (hT.agr a b hre hb hba).2 ht, ← I.lab T hT a ha han])
theorem rtF_spec (hB : M ^ (p.ws.length - 1) ≤ 1000000000000000) (hnl : p.ws.length ≤ 1000) :
  ∀ (k : Nat) (out : List Tn) (left : List Int) (done : Nat → Prop), BI p w M out left done (fun _ => False) → left.length + unk out < k → left.length + unk out ≤ p.ws.length →
  match p.rtF k out left with
  | .go out' left' => left' = [] ∧ ∃ done', BI p w M out' [] done' (fun _ => False)
  | .locked _ _ => ¬ ∃ T, p.Lab w T
  | .none => False
 | k, out, [], done, I, _, _ => by
  have e : p.rtF k out [] = .go out [] := by cases k <;> rfl
  rw [e]
  exact ⟨rfl, done, I⟩
 | 0, out, x :: l, done, I, h, _ => by omega
 | k + 1, out, x :: l, done, I, h, hl => by
  obtain ⟨⟨x1, x2⟩, x3⟩ := I.lft x List.mem_cons_self
  obtain ⟨a, rfl⟩ := Int.eq_ofNat_of_zero_le x1
  rw [Int.toNat_natCast] at x2 x3
  rw [Piece.rtF]
  simp only [List.length_cons] at h hl
  have I' : BI p w M out l done (fun c => c = a) := { I with
   lft := fun y hy => I.lft y (List.mem_cons_of_mem _ hy)
   cov := fun b hb hn => by
    rcases I.cov b hb hn with h | h | h
    ·rcases List.mem_cons.1 h with h | h
     ·exact .inr (.inr (by omega))
     ·exact .inl h
    ·exact .inr (.inl h)
    ·exact h.elim }
  have := rtIn_spec hM h1M hw x2 hB hnl p.ws.length 0 out l (by omega) I' x3 (fun c h => by omega) (by omega)
  revert this
  generalize p.rtIn a p.ws.length 0 out l = R
  intro this
  cases R with
  | go o l' =>
   obtain ⟨t1, t2, t3, t4⟩ := this
   refine rtF_spec hB hnl k o l' (fun c => done c ∨ c = a) { t1 with
    cov := fun b hb hn => by
     rcases t1.cov b hb hn with h | h
     ·exact .inl h
     ·exact .inr (.inl h)
    dn := fun c hc => by
     rcases hc with hc | rfl
     ·exact t1.dn c hc
     ·exact ⟨x2, t2, t3⟩ } (by omega) (by omega)
  | locked x y => exact this
  | none => exact this
theorem BI_init : BI p w M ((List.replicate p.ws.length (⟨0, 1⟩ : Tn)).set w ⟨1, 1⟩) [(w : Int)] (fun _ => False) (fun _ => False) := by
 have hrl : (List.replicate p.ws.length (⟨0, 1⟩ : Tn)).length = p.ws.length := List.length_replicate
 have hrg : ∀ c, c < p.ws.length → (List.replicate p.ws.length (⟨0, 1⟩ : Tn)).getD c default = ⟨0, 1⟩ := fun c hc => by
  rw [List.getD_eq_getElem?_getD, List.getElem?_replicate, if_pos hc]; rfl
 have hg : ∀ c, c < p.ws.length → ((List.replicate p.ws.length (⟨0, 1⟩ : Tn)).set w ⟨1, 1⟩).getD c default = if c = w then ⟨1, 1⟩ else ⟨0, 1⟩ := fun c hc => by
  rw [getD_set (by rw [hrl]; exact hw), hrg c hc]
 have _hu : unk ((List.replicate p.ws.length (⟨0, 1⟩ : Tn)).set w ⟨1, 1⟩) + 1 = p.ws.length := by
  rw [unk_set (by rw [hrl]; exact hw) (by rw [hrg w hw]) (by decide), unk, List.countP_replicate]; rfl
 have hq : ∀ c, c < p.ws.length → (((List.replicate p.ws.length (⟨0, 1⟩ : Tn)).set w ⟨1, 1⟩).getD c default).num ≠ 0 → c = w := fun c hc hn => by
  rw [hg c hc] at hn
  split at hn
  ·rename_i h; exact h
  ·exact absurd rfl hn
 exact {
  len := by rw [List.length_set, hrl]
  one := by rw [hg w hw, if_pos rfl]
  zer := fun b hb h0 => by
   rw [hg b hb] at h0 ⊢
   split at h0
   ·cases h0
   ·rename_i h; rw [if_neg h]
  re := fun b hb hn => by rw [hq b hb hn]; exact .refl
  low := fun b hb hn => by
   rw [hg b hb, if_pos (hq b hb hn)]; exact ⟨by decide, by decide⟩
  bd := fun b hb hn => by
   rw [hg b hb, if_pos (hq b hb hn)]
   exact ⟨Nat.one_le_pow _ _ h1M, Nat.one_le_pow _ _ h1M⟩
  lft := fun x hx => by
   rw [List.mem_singleton.1 hx]
   refine ⟨⟨by omega, by simpa using hw⟩, ?_⟩
   rw [Int.toNat_natCast, hg w hw, if_pos rfl]; decide
  cov := fun b hb hn => by left; rw [hq b hb hn]; simp
  lab := fun T hT b hb hn => by rw [hg b hb, if_pos (hq b hb hn), hq b hb hn, hT.one]
  dn := fun a h => h.elim }
structure Piece.Found (p : Piece) (w M : Nat) (out : List Tn) : Prop where
 len : out.length = p.ws.length
 zer : ∀ b, b < p.ws.length → ¬ p.Re w b → out.getD b default = ⟨0, 1⟩
 ne : ∀ b, p.Re w b → (out.getD b default).num ≠ 0
 low : ∀ b, p.Re w b → (out.getD b default).low
 bd : ∀ b, p.Re w b → (out.getD b default).num.natAbs ≤ M ^ (p.ws.length - 1) ∧ (out.getD b default).den.natAbs ≤ M ^ (p.ws.length - 1)
 lab : p.Lab w fun i => out.getD i default
theorem rt_spec (hB : M ^ (p.ws.length - 1) ≤ 1000000000000000) (hnl : p.ws.length ≤ 1000) :
  (∃ out, p.rt w = .go out [] ∧ p.Found w M out) ∨ (∃ a b, p.rt w = .locked a b) ∧ ¬ ∃ T, p.Lab w T := by
 have hrl : (List.replicate p.ws.length (⟨0, 1⟩ : Tn)).length = p.ws.length := List.length_replicate
 have hrg : ∀ c, c < p.ws.length → (List.replicate p.ws.length (⟨0, 1⟩ : Tn)).getD c default = ⟨0, 1⟩ := fun c hc => by
  rw [List.getD_eq_getElem?_getD, List.getElem?_replicate, if_pos hc]; rfl
 have hu : unk ((List.replicate p.ws.length (⟨0, 1⟩ : Tn)).set w ⟨1, 1⟩) + 1 = p.ws.length := by
  rw [unk_set (by rw [hrl]; exact hw) (by rw [hrg w hw]) (by decide), unk, List.countP_replicate]; rfl
 have I := BI_init hM h1M hw
 have := rtF_spec hM h1M hw hB hnl (p.ws.length + 1) _ _ _ I (by rw [List.length_singleton]; omega) (by rw [List.length_singleton]; omega)
 have ert : p.rt w = p.rtF (p.ws.length + 1) ((List.replicate p.ws.length ⟨0, 1⟩).set w ⟨1, 1⟩) [(w : Int)] := by rw [Piece.rt, Int.toNat_natCast]
 rw [← ert] at this
 cases hR : p.rt w with
 | go out l =>
  rw [hR] at this
  obtain ⟨rfl, done, J⟩ := this
  left
  have hcov : ∀ b, b < p.ws.length → (out.getD b default).num ≠ 0 → done b := fun b hb hn => by
   rcases J.cov b hb hn with h | h | h
   ·cases h
   ·exact h
   ·exact h.elim
  have hne : ∀ b, p.Re w b → (out.getD b default).num ≠ 0 := fun b hb => by
   induction hb with
   | refl => rw [J.one]; decide
   | step h1 h2 h3 h4 ih =>
    rename_i a b
    obtain ⟨d1, d2, d3⟩ := J.dn a (hcov a (Re_lt hw h1) ih)
    rw [show out.getD b default = _ from (d3 b h2 h3).2 h4]
    exact stp_ne hM d1 d2
  have hpw : M ^ (p.ws.length - 1 - unk out) ≤ M ^ (p.ws.length - 1) := Nat.pow_le_pow_right h1M (by omega)
  exact ⟨out, rfl, {
   len := J.len
   zer := fun b hb hn => J.zer b hb (by
    refine Classical.byContradiction fun h => hn (J.re b hb h))
   ne := hne
   low := fun b hb => J.low b (Re_lt hw hb) (hne b hb)
   bd := fun b hb => by
    have := J.bd b (Re_lt hw hb) (hne b hb)
    omega
   lab := ⟨J.one, fun a b h1 h2 h3 => (J.dn a (hcov a (Re_lt hw h1) (hne a h1))).2.2 b h2 h3⟩ }⟩
 | locked x y =>
  rw [hR] at this
  exact .inr ⟨⟨x, y, rfl⟩, this⟩
 | none => rw [hR] at this; exact this.elim
end
end Go.Tel
namespace Go.Tel
open Go.Am
inductive RrR where
 | go (out : List Tn) (left : List Int)
 | locked
 | none
 deriving DecidableEq, Inhabited
structure Rel (n : Nat) (out out' : List Tn) : Prop where
 l1 : out.length = n
 l2 : out'.length = n
 eq : ∀ b, b < n → ((out.getD b default).num = 0 ∧ out'.getD b default = ⟨0, 0⟩ ∧ out.getD b default = ⟨0, 1⟩) ∨ ((out.getD b default).num ≠ 0 ∧ 1 ≤ (out.getD b default).den ∧ out'.getD b default = out.getD b default)
theorem Rel.set {n : Nat} {out out' : List Tn} (h : Rel n out out') {b : Nat} (hb : b < n) {v : Tn} (hv : v.num ≠ 0) (hd : 1 ≤ v.den) : Rel n (out.set b v) (out'.set b v) := {
 l1 := by rw [List.length_set]; exact h.l1
 l2 := by rw [List.length_set]; exact h.l2
 eq := fun c hc => by
  rw [getD_set (by rw [h.l1]; exact hb), getD_set (by rw [h.l2]; exact hb)]
  split
  ·exact .inr ⟨hv, hd, rfl⟩
  ·exact h.eq c hc }
section
variable {p : Piece} {w M : Nat} (hM : ∀ w ∈ p.ws, 1 ≤ w.teeth ∧ w.teeth ≤ M) (h1M : 1 ≤ M) (hw : w < p.ws.length) (hms : ∀ m ∈ p.ms, m.a < m.b)
include hM h1M hms
include hw
end
end Go.Tel
namespace Go.Tel
open Go.Am
section
variable {p : Piece} {w M : Nat} (hM : ∀ w ∈ p.ws, 1 ≤ w.teeth ∧ w.teeth ≤ M) (hw : w < p.ws.length)
include hM hw
end
end Go.Tel
namespace Go.Tel
open Go.Am
section
variable {p q : Piece} {gone : List Int} {M : Nat} (hok : p.ok = true) (h1 : q.ws = (p.rwithout gone).ws) (h2 : q.ms = (p.rwithout gone).ms)
include hok h1 h2
theorem sub_len : q.ws.length = (left gone p.ws.length).length := by rw [h1]; simp [Piece.rwithout, Piece.kept]
theorem sub_wh {a : Nat} (ha : gone.contains (a : Int) = false) (hn : a < p.ws.length) : q.wh ((left gone a).length : Nat) = p.wh a := by
 rw [← q_wh ha hn, Piece.wh, Piece.wh, h1]
theorem sub_mesh {a b : Nat} (ha : gone.contains (a : Int) = false) (hb : gone.contains (b : Int) = false) : q.mesh ((left gone a).length : Nat) ((left gone b).length : Nat) = p.mesh a b := by
 have hms := ok_mss hok
 have hq : ∀ m ∈ q.ms, m.a < m.b := fun m hm => (ok_mss (without_ok hok gone) m (by rw [← h2]; exact hm)).2.1
 rw [mesh_same hq, mesh_same fun m hm => (hms m hm).2.1, ← q_meshed hms ha hb, Piece.rmeshed, Piece.rmeshed, h2]
theorem sub_sleeved {a b : Nat} (ha : gone.contains (a : Int) = false) (hb : gone.contains (b : Int) = false) (hna : a < p.ws.length) (hnb : b < p.ws.length) : q.sleeved ((left gone a).length : Nat) ((left gone b).length : Nat) = p.sleeved a b := by
 simp only [Piece.sleeved, Piece.centred, sub_wh hok h1 h2 ha hna, sub_wh hok h1 h2 hb hnb]
theorem sub_inv {j : Nat} (hj : j < q.ws.length) : ∃ c, c < p.ws.length ∧ gone.contains (c : Int) = false ∧ (left gone c).length = j := by
 rw [sub_len hok h1 h2] at hj
 obtain ⟨c, hc⟩ : ∃ c, (left gone p.ws.length)[j]? = some c := ⟨_, List.getElem?_eq_getElem hj⟩
 exact ⟨c, left_inv hc⟩
theorem sub_re {a : Nat} (ha : gone.contains (a : Int) = false) (hna : a < p.ws.length) {j : Nat} (h : q.Re (left gone a).length j) : ∃ c, c < p.ws.length ∧ gone.contains (c : Int) = false ∧ (left gone c).length = j ∧ p.Re a c := by
 induction h with
 | refl => exact ⟨a, hna, ha, rfl, .refl⟩
 | step g1 g2 g3 g4 ih =>
  obtain ⟨c, c1, c2, rfl, c4⟩ := ih
  obtain ⟨d, d1, d2, rfl⟩ := sub_inv hok h1 h2 g2
  refine ⟨d, d1, d2, rfl, .step c4 d1 (fun e => g3 (by rw [e])) ?_⟩
  rw [Piece.tied, sub_mesh hok h1 h2 c2 d2, sub_sleeved hok h1 h2 c2 d2 c1 d1] at g4
  exact g4
theorem sub_lab {a : Nat} (ha : gone.contains (a : Int) = false) (hna : a < p.ws.length) {t : List Tn} (F : p.Found a M t) : q.Lab (left gone a).length fun j => t.getD ((left gone p.ws.length).getD j default) default := by
 have hpos : ∀ c, c < p.ws.length → gone.contains (c : Int) = false → (left gone p.ws.length).getD (left gone c).length default = c := fun c h3 h4 => by
  rw [List.getD_eq_getElem?_getD, left_get h4 h3]; rfl
 refine ⟨by simp only [hpos a hna ha]; exact F.lab.one, fun i j hi hj hji => ?_⟩
 obtain ⟨c, c1, c2, rfl, c4⟩ := sub_re hok h1 h2 ha hna hi
 obtain ⟨d, d1, d2, rfl⟩ := sub_inv hok h1 h2 hj
 obtain ⟨g1, g2⟩ := F.lab.agr c d c4 d1 (fun e => hji (by rw [e]))
 refine ⟨by rw [sub_mesh hok h1 h2 c2 d2, sub_sleeved hok h1 h2 c2 d2 c1 d1]; exact g1, fun ht => ?_⟩
 rw [Piece.tied, sub_mesh hok h1 h2 c2 d2, sub_sleeved hok h1 h2 c2 d2 c1 d1] at ht
 simp only [hpos c c1 c2, hpos d d1 d2]
 rw [show t.getD d default = p.stp c d (t.getD c default) from g2 ht, Piece.stp, Piece.stp, Piece.joined, Piece.joined, sub_mesh hok h1 h2 c2 d2, sub_wh hok h1 h2 c2 c1, sub_wh hok h1 h2 d2 d1]
 cases p.mesh c d <;> rfl
end
theorem Piece.ok_50 {p : Piece} (h : p.ok = true) : ∀ w ∈ p.ws, 1 ≤ w.teeth ∧ w.teeth ≤ (50 : Nat) := fun w hw => by
 have := Piece.ok_teeth h w hw
 omega
theorem pow_50 {p : Piece} (h : p.ok = true) : 50 ^ (p.ws.length - 1) ≤ 1000000000000000 := by
 have := (Piece.ok_lens h).2.1
 exact Nat.le_trans (Nat.pow_le_pow_right (by decide) (show p.ws.length - 1 ≤ 7 by omega)) (by decide)
theorem rt_ok {p : Piece} (h : p.ok = true) {w : Nat} (hw : w < p.ws.length) : (∃ out, p.rt w = .go out [] ∧ p.Found w 50 out) ∨ (∃ a b, p.rt w = .locked a b) ∧ ¬ ∃ T, p.Lab w T :=
 rt_spec (Piece.ok_50 h) (by decide) hw (pow_50 h) (by have := (Piece.ok_lens h).2.1; omega)
theorem rt_not {p : Piece} (h : p.ok = true) {w : Int} (hw : p.isW w) : p.rt w ≠ .none := by
 obtain ⟨w1, w2⟩ := hw
 obtain ⟨n, rfl⟩ := Int.eq_ofNat_of_zero_le w1
 rw [Int.toNat_natCast] at w2
 rcases rt_ok h w2 with ⟨out, h1, _⟩ | ⟨⟨a, b, h1⟩, _⟩ <;> (rw [h1]; intro hh; cases hh)
end Go.Tel
namespace Go.Tel
open Go.Am
theorem bounds_mono {p : Piece} {gone : List Int} {o : Int} : ∀ (ws : List Wh) (i : Nat) (r r' : Int × Int), r.1 ≤ r'.1 → r'.2 ≤ r.2 → (p.bounds [] o i ws r).1 ≤ (p.bounds gone o i ws r').1 ∧ (p.bounds gone o i ws r').2 ≤ (p.bounds [] o i ws r).2
 | [], _, _, _, h1, h2 => ⟨h1, h2⟩
 | w :: ws, i, r, r', h1, h2 => by
  rw [Piece.bounds, Piece.bounds]
  refine bounds_mono ws (i + 1) _ _ ?_ ?_
  ·cases hs : p.sleeved i o
   ·simpa using h1
   ·cases hc : gone.contains (i : Int)
    ·simp only [List.contains_nil, Bool.not_false, Bool.and_true, if_true]; omega
    ·simp only [List.contains_nil, Bool.not_false, Bool.not_true, Bool.and_true, Bool.and_false, if_true, Bool.false_eq_true, if_false]; omega
  ·cases hs : p.sleeved i o
   ·simpa using h2
   ·cases hc : gone.contains (i : Int)
    ·simp only [List.contains_nil, Bool.not_false, Bool.and_true, if_true]; omega
    ·simp only [List.contains_nil, Bool.not_false, Bool.not_true, Bool.and_true, Bool.and_false, if_true, Bool.false_eq_true, if_false]; omega
theorem nested_less {p : Piece} {gone : List Int} {a b : Int} (h : p.nested [] a b = false) : p.nested gone a b = false := by
 rw [Piece.nested] at h ⊢
 split
 ·rfl
 ·rename_i hc
  rw [if_neg hc] at h
  simp only at h ⊢
  generalize (if (p.wh a).sleeve > (p.wh b).sleeve then b else a) = i at *
  generalize (if (p.wh a).sleeve > (p.wh b).sleeve then a else b) = o at *
  have := bounds_mono (p := p) (gone := gone) (o := o) p.ws 0 ((p.wh o).layer, (p.wh o).layer) _ (Int.le_refl _) (Int.le_refl _)
  simp only [inR, Bool.and_eq_false_iff, decide_eq_false_iff_not] at h ⊢
  omega
theorem wrong_less {p : Piece} {gone : List Int} {a b : Int} (h : p.wrong [] a b = 0) : p.wrong gone a b = 0 := by
 rw [Piece.wrong] at h ⊢
 split at h
 ·rename_i e; rw [if_pos e]; exact h
 ·rename_i e
  rw [if_neg e]
  split at h
  ·cases h
  rename_i h1; rw [if_neg h1]
  split at h
  ·cases h
  rename_i h2; rw [if_neg h2]
  split at h
  ·cases h
  rename_i h3; rw [if_neg h3]
  split at h
  ·cases h
  rename_i h4
  rw [nested_less (by rwa [Bool.not_eq_true] at h4), if_neg (by decide)]
  exact h
theorem sq_mono {n m : Int} (h0 : 0 ≤ n) (h : n ≤ m) : n * n ≤ m * m := Int.mul_le_mul h h h0 (by omega)
theorem rmeets_less {r : Piece} {ga po a b : Int} (hg : 0 ≤ ga ∧ ga ≤ r.ga) (hp : 0 ≤ po ∧ po ≤ r.po) (ta : 0 ≤ (r.wh a).teeth) (tb : 0 ≤ (r.wh b).teeth) (h : r.rmeets a b = 0) : ({ r with ga := ga, po := po } : Piece).rmeets a b = 0 := by
 have e0 : ({ r with ga := ga, po := po } : Piece).rmeets a b = if a = b then (if r.edged a then 1 else 0)
   else if r.rmeshed a b && (!r.level a b || r.centred a b || r.rnear a b (r.sum a b) || decide (r.far a b > (r.sum a b + r.pl) * (r.sum a b + r.pl))) then 2
   else if !r.rmeshed a b && r.level a b && !r.centred a b && r.rnear a b (r.sum a b + ga) then 3
   else if r.centred a b && r.level a b then 4
   else if r.centred a b && (r.rwithin a b || r.rwithin b a) then 5
   else if !r.centred a b && (decide ((r.wh a).layer ≤ (r.wh b).layer) && r.rnear a b ((r.wh a).teeth + po) || decide ((r.wh b).layer ≤ (r.wh a).layer) && r.rnear a b ((r.wh b).teeth + po)) then 6
   else 0 := rfl
 have near : ∀ n m : Int, 0 ≤ n → n ≤ m → r.rnear a b m = false → r.rnear a b n = false := fun n m h0 h1 h2 => by
  rw [Piece.rnear, decide_eq_false_iff_not] at h2 ⊢
  have := sq_mono h0 h1
  omega
 have hs : 0 ≤ r.sum a b := by rw [Piece.sum]; omega
 have n1 := near (r.sum a b + ga) (r.sum a b + r.ga) (by omega) (by omega)
 have n2 := near ((r.wh a).teeth + po) ((r.wh a).teeth + r.po) (by omega) (by omega)
 have n3 := near ((r.wh b).teeth + po) ((r.wh b).teeth + r.po) (by omega) (by omega)
 rw [e0]
 rw [Piece.rmeets] at h
 split at h
 ·rename_i e; rw [if_pos e]; exact h
 rename_i e
 rw [if_neg e]
 split at h
 ·cases h
 rename_i h1; rw [if_neg h1]
 split at h
 ·cases h
 rename_i h2
 split at h
 ·cases h
 rename_i h3
 split at h
 ·cases h
 rename_i h4
 split at h
 ·cases h
 rename_i h5
 rw [if_neg (c := (!r.rmeshed a b && r.level a b && !r.centred a b && r.rnear a b (r.sum a b + ga)) = true), if_neg h3, if_neg h4, if_neg]
 ·intro hh
  apply h5
  revert hh n2 n3
  cases r.centred a b <;> cases decide ((r.wh a).layer ≤ (r.wh b).layer) <;> cases decide ((r.wh b).layer ≤ (r.wh a).layer) <;> cases r.rnear a b ((r.wh a).teeth + po) <;> cases r.rnear a b ((r.wh b).teeth + po) <;> cases r.rnear a b ((r.wh a).teeth + r.po) <;> cases r.rnear a b ((r.wh b).teeth + r.po) <;> simp
 ·intro hh
  apply h2
  revert hh n1
  cases r.rmeshed a b <;> cases r.level a b <;> cases r.centred a b <;> cases r.rnear a b (r.sum a b + ga) <;> cases r.rnear a b (r.sum a b + r.ga) <;> simp
theorem pos_one (g : Nat) : ∀ k : Nat, (left [(g : Int)] k).length = if g < k then k - 1 else k
 | 0 => by simp [left]
 | k + 1 => by
  rw [left_succ, List.length_append, pos_one g k]
  by_cases e : k = g
  ·subst e
   have : ([(k : Int)].contains (k : Int)) = true := by simp
   rw [this, if_pos rfl, if_neg (Nat.lt_irrefl _), if_pos (Nat.lt_succ_self _)]; simp
  ·have : ([(g : Int)].contains (k : Int)) = false := by
    simp only [List.contains_cons, List.contains_nil, Bool.or_false, beq_eq_false_iff_ne]; omega
   rw [this]
   simp only [Bool.false_eq_true, if_false, List.length_singleton]
   split <;> split <;> omega
def Piece.less (p : Piece) (g : Nat) (ga po : Int) : Piece := { p.rwithout [(g : Int)] with ga := ga, po := po }
section
variable {p : Piece} (hok : p.ok = true) {g : Nat} {ga po : Int} (hga : 0 ≤ ga ∧ ga ≤ p.ga) (hpo : 0 ≤ po ∧ po ≤ p.po)
include hok hga hpo
theorem less_ok : (p.less g ga po).ok = true := by
 have h := without_ok hok [(g : Int)]
 have h2 := hok
 simp only [Piece.ok, Piece.headOk, inR, Bool.and_eq_true, decide_eq_true_eq] at h h2 ⊢
 obtain ⟨⟨⟨⟨k1, k2⟩, k3⟩, k4⟩, k5⟩ := h
 have e1 : (p.less g ga po).ga = ga := rfl
 have e2 : (p.less g ga po).po = po := rfl
 have e3 : (p.less g ga po).w = p.w := rfl
 have e4 : (p.less g ga po).h = p.h := rfl
 have e5 : (p.less g ga po).pl = p.pl := rfl
 exact ⟨⟨⟨⟨by rw [e1, e2, e3, e4, e5]; omega, k2⟩, k3⟩, k4⟩, k5⟩
theorem less_meets {a b : Nat} (ha : a ≠ g) (hb : b ≠ g) (hna : a < p.ws.length) (hnb : b < p.ws.length) (h : p.wrong [] a b = 0) :
  (p.less g ga po).wrong [] ((left [(g : Int)] a).length : Nat) ((left [(g : Int)] b).length : Nat) = 0 := by
 have hq := less_ok hok hga hpo (g := g)
 have hms := ok_mss hok
 have ca : ([(g : Int)].contains (a : Int)) = false := by simp only [List.contains_cons, List.contains_nil, Bool.or_false, beq_eq_false_iff_ne]; omega
 have cb : ([(g : Int)].contains (b : Int)) = false := by simp only [List.contains_cons, List.contains_nil, Bool.or_false, beq_eq_false_iff_ne]; omega
 rw [wrong_same fun m hm => (ok_mss hq m hm).2.1]
 have h1 := wrong_less (gone := [(g : Int)]) h
 rw [wrong_gone hms ca cb hna hnb] at h1
 have t := Piece.ok_50 hok
 refine rmeets_less hga hpo ?_ ?_ h1
 ·rw [q_wh ca hna]; have := wh_teeth t hna; omega
 ·rw [q_wh cb hnb]; have := wh_teeth t hnb; omega
theorem less_turns {a b : Nat} (ha : a ≠ g) (hb : b ≠ g) (hna : a < p.ws.length) (hnb : b < p.ws.length) {t : List Tn} (F : p.Found a 50 t) :
  ∃ u, (p.less g ga po).rt (left [(g : Int)] a).length = .go u [] ∧ u.length = (p.less g ga po).ws.length ∧ ((u.getD (left [(g : Int)] b).length default).num = 0 ∨ u.getD (left [(g : Int)] b).length default = t.getD b default) := by
 have hq := less_ok hok hga hpo (g := g)
 have ca : ([(g : Int)].contains (a : Int)) = false := by simp only [List.contains_cons, List.contains_nil, Bool.or_false, beq_eq_false_iff_ne]; omega
 have cb : ([(g : Int)].contains (b : Int)) = false := by simp only [List.contains_cons, List.contains_nil, Bool.or_false, beq_eq_false_iff_ne]; omega
 have hla := sub_lab (q := p.less g ga po) hok rfl rfl ca hna F
 have la : (left [(g : Int)] a).length < (p.less g ga po).ws.length := by
  rw [sub_len (q := p.less g ga po) hok rfl rfl]
  exact (List.getElem?_eq_some_iff.1 (left_get ca hna)).1
 have lb : (left [(g : Int)] b).length < (p.less g ga po).ws.length := by
  rw [sub_len (q := p.less g ga po) hok rfl rfl]
  exact (List.getElem?_eq_some_iff.1 (left_get cb hnb)).1
 rcases rt_ok hq la with ⟨u, r1, G⟩ | ⟨_, r1⟩
 ·refine ⟨u, r1, G.len, ?_⟩
  by_cases hr : (p.less g ga po).Re (left [(g : Int)] a).length (left [(g : Int)] b).length
  ·right
   have := Lab_uniq G.lab hla hr
   rw [this]
   show t.getD ((left [(g : Int)] p.ws.length).getD (left [(g : Int)] b).length default) default = _
   rw [List.getD_eq_getElem?_getD (l := left [(g : Int)] p.ws.length), left_get cb hnb]; rfl
  ·left; rw [G.zer _ lb hr]
 ·exact absurd ⟨_, hla⟩ r1
end
end Go.Tel
open Nat renaming reduceBEq → qA, reduceAdd → qB, reduceSub → qC, reduceEqDiff → qD, reduceLT → qE, reduceLeDiff → qF
namespace Go.Tel
open Go.Am
structure RrS where
 out : List Tn
 ls : List Int
 s : Nat
 ver : Nat
end Go.Tel
open Nat renaming reduceBEq → qA, reduceAdd → qB, reduceSub → qC, reduceEqDiff → qD, reduceLT → qE, reduceLeDiff → qF
namespace Go.Tel
open Go.Am
end Go.Tel
open Nat renaming reduceBEq → qA, reduceAdd → qB, reduceSub → qC, reduceEqDiff → qD, reduceLT → qE, reduceLeDiff → qF
namespace Go.Tel
open Go.Am
theorem Meets_of {p : Piece} (hok : p.ok = true) {a b : Nat} (ha : a < p.ws.length) (hb : b < p.ws.length) : p.meets a b = (p.wrong [] a b, 0) := by
 have h1 : inR (a : Int) 0 (p.ws.length - 1) = true := by simp only [inR, Bool.and_eq_true, decide_eq_true_eq]; omega
 have h2 : inR (b : Int) 0 (p.ws.length - 1) = true := by simp only [inR, Bool.and_eq_true, decide_eq_true_eq]; omega
 rw [Piece.meets, hok, h1, h2]; rfl
theorem Ratios_of {p : Piece} (hok : p.ok = true) {a : Nat} (ha : a < p.ws.length) : p.ratios a = (match p.rt a with | .go out _ => (some out, 0) | _ => (none, 7)) := by
 have h1 : inR (a : Int) 0 (p.ws.length - 1) = true := by simp only [inR, Bool.and_eq_true, decide_eq_true_eq]; omega
 rw [Piece.ratios, hok, h1]; rfl
theorem Ratios_go {p : Piece} (hok : p.ok = true) {a : Nat} (ha : a < p.ws.length) {t : List Tn} {l : List Int} (h : p.rt a = .go t l) : p.ratios a = (some t, 0) := by rw [Ratios_of hok ha, h]
theorem Ratios_lock {p : Piece} (hok : p.ok = true) {a : Nat} (ha : a < p.ws.length) {x y : Int} (h : p.rt a = .locked x y) : p.ratios a = (none, 7) := by rw [Ratios_of hok ha, h]
set_option maxRecDepth 10000 in
set_option maxHeartbeats 4000000 in
theorem PlateLess_c (hkn : KnownC) (p : Piece) (ga po g a b : Int) : Pure Go.Tel.C F.law_PlateLess [p.dv, .int .i64 ga, .int .i64 po, .int .i64 g, .int .i64 a, .int .i64 b] (.d (.bool true)) [] := by
 have hkn : Pure C F.law_known [] (.d (.bool true)) [] := hkn
 have y0 : ((0 : Int) == 0) = true := rfl
 have n0 : ((0 : Int) != 0) = false := rfl
 have n7 : ((7 : Int) != 0) = true := rfl
 have n77 : ((7 : Int) != 7) = false := rfl
 have z7 : ((7 : Int) == 0) = false := rfl
 have hsh := short_c p
 rw [dv_Piece] at hsh
 refine pure_of_pwp_d mixed rfl ok_law_PlateLess ?_
 simp only [pc_law_PlateLess, rs_law_PlateLess, dv_Piece, List.not_mem_nil, RN, qA, qB, qC, qD, qE, qF]
 refine call_d rfl rfl hsh ?_
 cases hs : p.short
 ·simp only [RN, qA, qB, qC, qD, qE, qF]
  refine call_d rfl rfl hkn ?_
  simp only [RN, qA, qB, qC, qD, qE, qF]
 simp only [Piece.short, Bool.and_eq_true, decide_eq_true_eq] at hs
 obtain ⟨⟨s1, s2⟩, s3⟩ := hs
 have h2 := rPiece_c p (by omega) (by omega) (by omega)
 have h3 := fun w => rWheel_c p w (by omega)
 rw [dv_Piece] at h2
 simp only [dv_Piece] at h3
 simp only [RN, qA, qB, qC, qD, qE, qF]
 refine call_d rfl rfl h2 ?_
 cases hok : p.ok
 ·simp only [RN, qA, qB, qC, qD, qE, qF]
  refine call_d rfl rfl hkn ?_
  simp only [RN, qA, qB, qC, qD, qE, qF]
 by_cases c1 : ga < 0
 ·simp only [c1, RN, qA, qB, qC, qD, qE, qF]
  refine call_d rfl rfl hkn ?_
  simp only [RN, qA, qB, qC, qD, qE, qF]
 by_cases c2 : ga > p.ga
 ·simp only [c1, c2, RN, qA, qB, qC, qD, qE, qF]
  refine call_d rfl rfl hkn ?_
  simp only [RN, qA, qB, qC, qD, qE, qF]
 by_cases c3 : po < 0
 ·simp only [c1, c2, c3, RN, qA, qB, qC, qD, qE, qF]
  refine call_d rfl rfl hkn ?_
  simp only [RN, qA, qB, qC, qD, qE, qF]
 by_cases c4 : po > p.po
 ·simp only [c1, c2, c3, c4, RN, qA, qB, qC, qD, qE, qF]
  refine call_d rfl rfl hkn ?_
  simp only [RN, qA, qB, qC, qD, qE, qF]
 simp only [c1, c2, c3, c4, RN, qA, qB, qC, qD, qE, qF]
 refine call_d rfl rfl (h3 g) ?_
 cases hg : inR g 0 (p.ws.length - 1)
 ·simp only [RN, qA, qB, qC, qD, qE, qF]
  refine call_d rfl rfl hkn ?_
  simp only [RN, qA, qB, qC, qD, qE, qF]
 simp only [RN, qA, qB, qC, qD, qE, qF]
 refine call_d rfl rfl (h3 a) ?_
 cases ha : inR a 0 (p.ws.length - 1)
 ·simp only [RN, qA, qB, qC, qD, qE, qF]
  refine call_d rfl rfl hkn ?_
  simp only [RN, qA, qB, qC, qD, qE, qF]
 simp only [RN, qA, qB, qC, qD, qE, qF]
 refine call_d rfl rfl (h3 b) ?_
 cases hb : inR b 0 (p.ws.length - 1)
 ·simp only [RN, qA, qB, qC, qD, qE, qF]
  refine call_d rfl rfl hkn ?_
  simp only [RN, qA, qB, qC, qD, qE, qF]
 cases c5 : (g == a)
 case true =>
  simp only [c5, RN, qA, qB, qC, qD, qE, qF]
  refine call_d rfl rfl hkn ?_
  simp only [RN, qA, qB, qC, qD, qE, qF]
 cases c6 : (g == b)
 case true =>
  simp only [c5, c6, RN, qA, qB, qC, qD, qE, qF]
  refine call_d rfl rfl hkn ?_
  simp only [RN, qA, qB, qC, qD, qE, qF]
 simp only [c5, c6, RN, qA, qB, qC, qD, qE, qF]
 have e5 := beq_eq_false_iff_ne.1 c5
 have e6 := beq_eq_false_iff_ne.1 c6
 simp only [inR, Bool.and_eq_true, decide_eq_true_eq] at hg ha hb
 obtain ⟨G, rfl⟩ := Int.eq_ofNat_of_zero_le (show 0 ≤ g by omega)
 obtain ⟨A, rfl⟩ := Int.eq_ofNat_of_zero_le (show 0 ≤ a by omega)
 obtain ⟨B, rfl⟩ := Int.eq_ofNat_of_zero_le (show 0 ≤ b by omega)
 have hlen := Piece.ok_lens hok
 have lA : A < p.ws.length := by omega
 have lB : B < p.ws.length := by omega
 have nA : A ≠ G := by omega
 have nB : B ≠ G := by omega
 have hga : 0 ≤ ga ∧ ga ≤ p.ga := by omega
 have hpo : 0 ≤ po ∧ po ≤ p.po := by omega
 have hqok := less_ok hok hga hpo (g := G)
 have hql := Piece.ok_lens hqok
 have hms := ok_mss hok
 have hwo := rWithout_c p [(G : Int)] (by simp) (by omega) (by omega) (fun m hm => by have := hms m hm; omega)
 have hM := Meets_c p (by omega) (by omega) (by omega) A B
 rw [Meets_of hok lA lB] at hM
 have pA := pos_one G A
 have pB := pos_one G B
 have hqm := less_meets hok hga hpo nA nB lA lB
 have cA : ([(G : Int)].contains (A : Int)) = false := by simp only [List.contains_cons, List.contains_nil, Bool.or_false, beq_eq_false_iff_ne]; omega
 have cB : ([(G : Int)].contains (B : Int)) = false := by simp only [List.contains_cons, List.contains_nil, Bool.or_false, beq_eq_false_iff_ne]; omega
 have hqa : (left [(G : Int)] A).length < (p.less G ga po).ws.length := by
  rw [sub_len (q := p.less G ga po) hok rfl rfl]
  exact (List.getElem?_eq_some_iff.1 (left_get cA lA)).1
 have hqb : (left [(G : Int)] B).length < (p.less G ga po).ws.length := by
  rw [sub_len (q := p.less G ga po) hok rfl rfl]
  exact (List.getElem?_eq_some_iff.1 (left_get cB lB)).1
 have hQ := Meets_c (p.less G ga po) (by omega) (by omega) (by omega) (left [(G : Int)] A).length (left [(G : Int)] B).length
 rw [Meets_of hqok hqa hqb] at hQ
 have hR := Ratios_c p (by omega) (by omega) (by omega) A (fun h1 h2 => rt_not h1 h2)
 have hS := Ratios_c (p.less G ga po) (by omega) (by omega) (by omega) (left [(G : Int)] A).length (fun h1 h2 => rt_not h1 h2)
 have hT := fun t (F : p.Found A 50 t) => less_turns hok hga hpo nA nB lA lB F
 have hqd : (p.less G ga po).dv = .agg [.int .i64 (p.rwithout [(G : Int)]).w, .int .i64 (p.rwithout [(G : Int)]).h, .int .i64 (p.rwithout [(G : Int)]).pl, .int .i64 ga, .int .i64 po, .slice false ((p.rwithout [(G : Int)]).cs.map Pt.dv), .slice false ((p.rwithout [(G : Int)]).ws.map Wh.dv), .slice false ((p.rwithout [(G : Int)]).ms.map Ms.dv)] := by rw [dv_Piece]; rfl
 have hqw : (p.rwithout [(G : Int)]).ws.length = (p.less G ga po).ws.length := rfl
 rw [hqd] at hQ hS
 rw [dv_Piece] at hM hR hwo
 rw [dv_Piece] at hwo
 have hwA : IntKind.i64.wrap ((A : Int) - 1) = (A : Int) - 1 := w64_in (by omega)
 have hwB : IntKind.i64.wrap ((B : Int) - 1) = (B : Int) - 1 := w64_in (by omega)
 simp only [ev_mkSl1, DV.strip, dcells_int, RN, qA, qB, qC, qD, qE, qF]
 refine call_d rfl rfl hwo ?_
 have hAA : ((A : Int) > G ∧ ((left [(G : Int)] A).length : Int) = (A : Int) - 1) ∨ (¬ (A : Int) > G ∧ ((left [(G : Int)] A).length : Int) = A) := by
  by_cases h : G < A
  ·rw [if_pos h] at pA; exact .inl ⟨by omega, by omega⟩
  ·rw [if_neg h] at pA; exact .inr ⟨by omega, by omega⟩
 have hBB : ((B : Int) > G ∧ ((left [(G : Int)] B).length : Int) = (B : Int) - 1) ∨ (¬ (B : Int) > G ∧ ((left [(G : Int)] B).length : Int) = B) := by
  by_cases h : G < B
  ·rw [if_pos h] at pB; exact .inl ⟨by omega, by omega⟩
  ·rw [if_neg h] at pB; exact .inr ⟨by omega, by omega⟩
 have vA : (A : Int) > G → IntKind.i64.wrap ((A : Int) - 1) = (left [(G : Int)] A).length := fun h => by
  rcases hAA with ⟨_, h2⟩ | ⟨h1, _⟩
  ·rw [hwA, h2]
  ·exact absurd h h1
 have vB : (B : Int) > G → IntKind.i64.wrap ((B : Int) - 1) = (left [(G : Int)] B).length := fun h => by
  rcases hBB with ⟨_, h2⟩ | ⟨h1, _⟩
  ·rw [hwB, h2]
  ·exact absurd h h1
 have uA : ¬ (A : Int) > G → (A : Int) = (left [(G : Int)] A).length := fun h => by
  rcases hAA with ⟨h1, _⟩ | ⟨_, h2⟩
  ·exact absurd h1 h
  ·exact h2.symm
 have uB : ¬ (B : Int) > G → (B : Int) = (left [(G : Int)] B).length := fun h => by
  rcases hBB with ⟨h1, _⟩ | ⟨_, h2⟩
  ·exact absurd h1 h
  ·exact h2.symm
 have b0 : (0 : Int) ≤ ((left [(G : Int)] B).length : Int) := by omega
 have B0 : (0 : Int) ≤ (B : Int) := by omega
 have hcase : (∃ t u, p.ratios A = (some t, 0) ∧ t.length = p.ws.length ∧ (p.less G ga po).ratios (left [(G : Int)] A).length = (some u, 0) ∧ u.length = (p.less G ga po).ws.length ∧ ((u.getD (left [(G : Int)] B).length default).num = 0 ∨ u.getD (left [(G : Int)] B).length default = t.getD B default)) ∨
   (p.ratios A = (none, 7) ∧ ∃ o e, (p.less G ga po).ratios (left [(G : Int)] A).length = (o, e) ∧ (e = 0 ∨ e = 7)) := by
  rcases rt_ok hok lA with ⟨t, r1, F⟩ | ⟨⟨x, y, r1⟩, _⟩
  ·obtain ⟨u, r2, r3, r4⟩ := hT t F
   exact .inl ⟨t, u, Ratios_go hok lA r1, F.len, Ratios_go hqok hqa r2, r3, r4⟩
  ·right
   refine ⟨Ratios_lock hok lA r1, ?_⟩
   rcases rt_ok hqok hqa with ⟨u, r2, _⟩ | ⟨⟨x', y', r2⟩, _⟩
   ·exact ⟨_, _, Ratios_go hqok hqa r2, .inl rfl⟩
   ·exact ⟨_, _, Ratios_lock hqok hqa r2, .inr rfl⟩
 clear hT
 generalize (left [(G : Int)] A).length = a' at *
 generalize (left [(G : Int)] B).length = b' at *
 have ll : ((p.ws.length : Int) != (p.ws.length : Int)) = false := bne_self_eq_false _
 have lq : (((p.less G ga po).ws.length : Int) != ((p.less G ga po).ws.length : Int)) = false := bne_self_eq_false _
 have hkk : ((p.wrong [] A B == 0) = false) ∨ ((p.wrong [] A B == 0) = true ∧ ((p.less G ga po).wrong [] a' b' != 0) = false) := by
  cases hk : (p.wrong [] A B == 0)
  ·exact .inl rfl
  ·exact .inr ⟨rfl, by rw [hqm (beq_iff_eq.1 hk)]; rfl⟩
 clear hAA hBB hwA hwB pA pB hqm
 by_cases cA' : (A : Int) > G
 case' pos => have va := vA cA'
 case' neg =>
  obtain rfl : A = a' := by have := uA cA'; omega
  have va := y0
 all_goals
  by_cases cB' : (B : Int) > G
  ·have vb := vB cB'
   simp only [cA', cB', va, vb, RN, qA, qB, qC, qD, qE, qF]
   refine call_d rfl rfl hM ?_
   simp only [RN, qA, qB, qC, qD, qE, qF]
   refine call_d rfl rfl hQ ?_
   rcases hkk with hkk | ⟨hkk, hkq⟩
   case' inl => have hkq := y0
   all_goals
    simp only [n0, hkk, hkq, RN, qA, qB, qC, qD, qE, qF]
    refine call_d rfl rfl hR ?_
    rcases hcase with ⟨t, u, r1, r2, r3, r4, r5⟩ | ⟨r1, ou, e, r3, he⟩
    ·rw [r1]
     rw [r3] at hS
     simp only [slD, RN, qA, qB, qC, qD, qE, qF]
     refine call_d rfl rfl hS ?_
     have hbt : B < t.length := by omega
     have hbu : b' < u.length := by omega
     have w1 : ((t.length : Int) != (p.ws.length : Int)) = false := by rw [r2]; exact ll
     have w2 : ((u.length : Int) != ((p.rwithout [(G : Int)]).ws.length : Int)) = false := by rw [r4]; exact lq
     cases hz : ((u.getD b' default).num == 0)
     ·have hz' := beq_eq_false_iff_ne.1 hz
      have r6 : u.getD b' default = t.getD B default := by
       rcases r5 with h | h
       ·exact absurd h hz'
       ·exact h
      simp only [slD, y0, n0, w1, w2, b0, B0, hbt, hbu, hz, getD_map, dv_Tn, Int.toNat_natCast, List.length_map, RN, qA, qB, qC, qD, qE, qF]
      rw [ev_binA (cellsEq_tn _ _), decide_eq_true r6]
      simp only [bne_f, RN, qA, qB, qC, qD, qE, qF]
      refine call_d rfl rfl hkn ?_
      simp only [RN, qA, qB, qC, qD, qE, qF]
     ·simp only [slD, y0, n0, w1, w2, b0, B0, hbt, hbu, hz, getD_map, dv_Tn, Int.toNat_natCast, List.length_map, RN, qA, qB, qC, qD, qE, qF]
      refine call_d rfl rfl hkn ?_
      simp only [RN, qA, qB, qC, qD, qE, qF]
    ·rw [r1]
     rw [r3] at hS
     simp only [slD, RN, qA, qB, qC, qD, qE, qF]
     refine call_d rfl rfl hS ?_
     rcases he with rfl | rfl
     ·simp only [n7, n77, n0, z7, RN, qA, qB, qC, qD, qE, qF]
      refine call_d rfl rfl hkn ?_
      simp only [RN, qA, qB, qC, qD, qE, qF]
     ·simp only [n7, n77, n0, z7, RN, qA, qB, qC, qD, qE, qF]
      refine call_d rfl rfl hkn ?_
      simp only [RN, qA, qB, qC, qD, qE, qF]
  ·obtain rfl : B = b' := by have := uB cB'; omega
   have vb := y0
   simp only [cA', cB', va, vb, RN, qA, qB, qC, qD, qE, qF]
   refine call_d rfl rfl hM ?_
   simp only [RN, qA, qB, qC, qD, qE, qF]
   refine call_d rfl rfl hQ ?_
   rcases hkk with hkk | ⟨hkk, hkq⟩
   case' inl => have hkq := y0
   all_goals
    simp only [n0, hkk, hkq, RN, qA, qB, qC, qD, qE, qF]
    refine call_d rfl rfl hR ?_
    rcases hcase with ⟨t, u, r1, r2, r3, r4, r5⟩ | ⟨r1, ou, e, r3, he⟩
    ·rw [r1]
     rw [r3] at hS
     simp only [slD, RN, qA, qB, qC, qD, qE, qF]
     refine call_d rfl rfl hS ?_
     have hbt : B < t.length := by omega
     have hbu : B < u.length := by omega
     have w1 : ((t.length : Int) != (p.ws.length : Int)) = false := by rw [r2]; exact ll
     have w2 : ((u.length : Int) != ((p.rwithout [(G : Int)]).ws.length : Int)) = false := by rw [r4]; exact lq
     cases hz : ((u.getD B default).num == 0)
     ·have hz' := beq_eq_false_iff_ne.1 hz
      have r6 : u.getD B default = t.getD B default := by
       rcases r5 with h | h
       ·exact absurd h hz'
       ·exact h
      simp only [slD, y0, n0, w1, w2, b0, B0, hbt, hbu, hz, getD_map, dv_Tn, Int.toNat_natCast, List.length_map, RN, qA, qB, qC, qD, qE, qF]
      rw [ev_binA (cellsEq_tn _ _), decide_eq_true r6]
      simp only [bne_f, RN, qA, qB, qC, qD, qE, qF]
      refine call_d rfl rfl hkn ?_
      simp only [RN, qA, qB, qC, qD, qE, qF]
     ·simp only [slD, y0, n0, w1, w2, b0, B0, hbt, hbu, hz, getD_map, dv_Tn, Int.toNat_natCast, List.length_map, RN, qA, qB, qC, qD, qE, qF]
      refine call_d rfl rfl hkn ?_
      simp only [RN, qA, qB, qC, qD, qE, qF]
    ·rw [r1]
     rw [r3] at hS
     simp only [slD, RN, qA, qB, qC, qD, qE, qF]
     refine call_d rfl rfl hS ?_
     rcases he with rfl | rfl
     ·simp only [n7, n77, n0, z7, RN, qA, qB, qC, qD, qE, qF]
      refine call_d rfl rfl hkn ?_
      simp only [RN, qA, qB, qC, qD, qE, qF]
     ·simp only [n7, n77, n0, z7, RN, qA, qB, qC, qD, qE, qF]
      refine call_d rfl rfl hkn ?_
      simp only [RN, qA, qB, qC, qD, qE, qF]
end Go.Tel
