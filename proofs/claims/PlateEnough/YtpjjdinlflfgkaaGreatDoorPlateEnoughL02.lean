/-
  Part 2 of the proof of a law of plates, the law itself: an abstract machine over the model, contracts of functions, plain laws.
  Conditions: none.
-/
import Derived.Test.YtpjjdinlflfgkaaGreatDoorPlateEnoughL01
set_option linter.all false
namespace Go.Tel
end Go.Tel
open Nat renaming reduceBEq → qA, reduceAdd → qB, reduceSub → qC, reduceEqDiff → qD, reduceLT → qE, reduceLeDiff → qF
namespace Go.Tel
open Go.Am
end Go.Tel
open Nat renaming reduceBEq → qA, reduceAdd → qB, reduceSub → qC, reduceEqDiff → qD, reduceLT → qE, reduceLeDiff → qF
namespace Go.Tel
open Go.Am
def Wh.cells (w : Wh) : List DV := [.int .i64 w.centre, .int .i64 w.sleeve, .int .i64 w.layer, .int .i64 w.teeth]
end Go.Tel
namespace Go.Tel
open Go.Am
end Go.Tel
open Nat renaming reduceBEq → qA, reduceAdd → qB, reduceSub → qC, reduceEqDiff → qD, reduceLT → qE, reduceLeDiff → qF
namespace Go.Tel
open Go.Am
end Go.Tel
open Nat renaming reduceBEq → qA, reduceAdd → qB, reduceSub → qC, reduceEqDiff → qD, reduceLT → qE, reduceLeDiff → qF
namespace Go.Tel
open Go.Am
def prevOf (l : List Int) (i : Nat) : Option Int := if i = 0 then none else some (l.getD (i - 1) default)
end Go.Tel
open Nat renaming reduceBEq → qA, reduceAdd → qB, reduceSub → qC, reduceEqDiff → qD, reduceLT → qE, reduceLeDiff → qF
namespace Go.Am
theorem app_any {sz : Nat} {c : PV} {xs : List DV} {x : DV} {bs : List (Option (List PV))} {fz : List Nat} {ar : List (Option Arr)} {K : PV → Mem → Prop} (h : sl sz c xs ar) (hs : 0 < sz) (hx : x.fits sz = true) (hl : xs.length + 1 ≤ 1073741824)
  (hK : ∀ k ver ar', ar'[k]? = some (some ⟨sz, xs ++ [x], ver, 0⟩) → (∀ j A, ar[j]? = some (some A) → kOf c ≠ some j → ar'[j]? = some (some A) ∧ j ≠ k) → K (.tsl k ver 0) ⟨bs, fz, ar'⟩) : runApp sz false c (.d (.slice true [x])) ⟨bs, fz, ar⟩ K := by
 rcases h with ⟨rfl, rfl⟩ | ⟨k, ver, rfl, hk⟩
 ·simp only [runApp, appd]
  refine ⟨hs, by simpa using hx, by simp, trivial, by simp, by simpa using hl, ?_⟩
  refine hK _ _ _ (by simp) fun j A hj _ => ?_
  have hlt : j < ar.length := (List.getElem?_eq_some_iff.1 hj).1
  exact ⟨by rw [List.getElem?_append_left hlt]; exact hj, by omega⟩
 ·simp only [runApp, appd, row_m, hk, if_true]
  refine ⟨hs, by simpa using hx, by simp, trivial, by decide, by simpa using hl, ?_⟩
  have hlt : k < ar.length := (List.getElem?_eq_some_iff.1 hk).1
  refine hK _ _ _ (by simp [hlt]) fun j A hj hne => ?_
  have hkj : k ≠ j := fun e => hne (by rw [e]; rfl)
  exact ⟨by rw [List.getElem?_set_ne hkj]; exact hj, fun e => hkj e.symm⟩
theorem one_sl {sz : Nat} {c : PV} {xs : List DV} {ar : List (Option Arr)} (h : sl sz c xs ar) : PV.one c = true ∧ PV.cells c = [c] ∧ c.isDead = false := by
 rcases h with ⟨rfl, rfl⟩ | ⟨k, ver, rfl, hk⟩ <;> exact ⟨rfl, rfl, rfl⟩
end Go.Am
namespace Go.Tel
open Go.Am
def left (gone : List Int) (k : Nat) : List Nat := (List.range k).filter fun i => !gone.contains (i : Int)
structure WoS where
 ver : Nat
 c : PV
 ar : List (Option Arr)
end Go.Tel
namespace Go.Tel
open Go.Am
def allR (below : Int) : Nat → List (List Int)
 | 0 => []
 | k + 1 => ([] :: allR below k).map (List.cons (below - (k + 1 : Nat))) ++ allR below k
def allS (below : Int) (k : Nat) : List (List Int) := [] :: allR below k
theorem someR_lex (s : List Int → Bool) (below : Int) : ∀ (k : Nat) (now : List Int), someR s below k now = ((allR below k).map (now ++ ·)).filter s
 | 0, now => rfl
 | k + 1, now => by
  rw [someR, someR_lex s below k, someR_lex s below k, allR]
  simp only [List.map_append, List.map_cons, List.map_map, List.filter_append, List.filter_cons]
  congr 1
  have e : (fun x : List Int => now ++ [below - (k + 1 : Nat)] ++ x) = (fun x => now ++ x) ∘ List.cons (below - (k + 1 : Nat)) := by
   funext x; simp
  rw [e]
  split <;> simp
theorem someS_lex (s : List Int → Bool) (below : Int) (k : Nat) : someS s below k [] = (allS below k).filter s := by
 rw [someS, someR_lex, allS, List.filter_cons]
 simp only [List.nil_append, List.map_id']
 split <;> simp
theorem allR_ne (below : Int) : ∀ (k : Nat) (x : List Int), x ∈ allR below k → ∃ v l, x = v :: l ∧ below - k ≤ v
 | 0, x, h => by cases h
 | k + 1, x, h => by
  rw [allR, List.mem_append] at h
  rcases h with h | h
  ·obtain ⟨y, _, rfl⟩ := List.mem_map.1 h
   exact ⟨_, _, rfl, by omega⟩
  ·obtain ⟨v, l, rfl, hv⟩ := allR_ne below k x h
   exact ⟨v, l, rfl, by omega⟩
theorem allR_len (below : Int) : ∀ (k : Nat) (x : List Int), x ∈ allR below k → x.length ≤ k
 | 0, x, h => by cases h
 | k + 1, x, h => by
  rw [allR, List.mem_append] at h
  rcases h with h | h
  ·obtain ⟨y, hy, rfl⟩ := List.mem_map.1 h
   rcases List.mem_cons.1 hy with rfl | hy
   ·simp
   ·have := allR_len below k y hy
    simp only [List.length_cons]; omega
  ·have := allR_len below k x h; omega
theorem allS_len {below : Int} {k : Nat} {x : List Int} (h : x ∈ allS below k) : x.length ≤ k := by
 rcases List.mem_cons.1 h with rfl | h
 ·simp
 ·exact allR_len below k x h
def Ord (x y : List Int) : Prop := x.length = y.length → ¬ cmpL y x < 0
theorem allR_ord (below : Int) : ∀ k : Nat, (allS below k).Pairwise Ord
 | 0 => by simp [allS, allR]
 | k + 1 => by
  have ih := allR_ord below k
  have hR : (allR below k).Pairwise Ord := (List.pairwise_cons.1 ih).2
  rw [allS]
  refine List.pairwise_cons.2 ⟨fun y hy hl => ?_, ?_⟩
  ·obtain ⟨v, l, rfl, _⟩ := allR_ne below _ y hy
   simp at hl
  ·rw [allR, List.pairwise_append]
   refine ⟨?_, hR, fun x hx y hy hl => ?_⟩
   ·rw [List.pairwise_map]
    refine ih.imp fun {x y} h hl => ?_
    have := h (by simpa using hl)
    simpa [cmpL] using this
   ·obtain ⟨z, _, rfl⟩ := List.mem_map.1 hx
    obtain ⟨v, l, rfl, hv⟩ := allR_ne below k y hy
    rw [cmpL, if_neg (by omega), if_pos (by omega)]
    omega
def firstMin (L : List (List Int)) (r : List Int) : Prop := ∃ A B, L = A ++ r :: B ∧ (∀ a ∈ A, r.length < a.length) ∧ ∀ b ∈ B, r.length ≤ b.length
theorem best_min : ∀ (L P : List (List Int)) (y r : List Int), firstMin P y → (P ++ L).Pairwise Ord → bestL shorter L (some y) = some r → firstMin (P ++ L) r
 | [], P, y, r, h, _, hb => by
  simp only [bestL, Option.some.injEq] at hb
  subst hb
  simpa using h
 | x :: L, P, y, r, h, hp, hb => by
  rw [bestL] at hb
  have hp' : (P ++ [x] ++ L).Pairwise Ord := by simpa using hp
  have e : P ++ x :: L = P ++ [x] ++ L := by simp
  rw [e]
  refine best_min L (P ++ [x]) _ r ?_ hp' hb
  obtain ⟨A, B, rfl, hA, hB⟩ := h
  by_cases hs : shorter x y = true
  ·rw [if_pos hs]
   simp only [shorter, Bool.or_eq_true, Bool.and_eq_true, decide_eq_true_eq] at hs
   have hyx : Ord y x := (List.pairwise_append.1 hp).2.2 y (by simp) x List.mem_cons_self
   have hlt : x.length < y.length := by
    rcases hs with hs | ⟨h1, h2⟩
    ·exact hs
    ·exact absurd h2 (hyx h1.symm)
   refine ⟨A ++ y :: B, [], rfl, fun a ha => ?_, fun b hb => by cases hb⟩
   rcases List.mem_append.1 ha with ha | ha
   ·have := hA a ha; omega
   ·rcases List.mem_cons.1 ha with rfl | ha
    ·exact hlt
    ·have := hB a ha; omega
  ·rw [if_neg hs]
   simp only [shorter, Bool.or_eq_true, Bool.and_eq_true, decide_eq_true_eq, not_or] at hs
   refine ⟨A, B ++ [x], by simp, hA, fun b hb => ?_⟩
   rcases List.mem_append.1 hb with hb | hb
   ·exact hB b hb
   ·rw [List.mem_singleton.1 hb]; omega
theorem best_some {better : List Int → List Int → Bool} : ∀ (L : List (List Int)) (y : List Int), ∃ r, bestL better L (some y) = some r
 | [], y => ⟨y, rfl⟩
 | x :: L, y => by rw [bestL]; exact best_some L _
theorem best_first {L : List (List Int)} (hp : L.Pairwise Ord) : (L = [] ∧ bestL shorter L none = none) ∨ ∃ r, bestL shorter L none = some r ∧ firstMin L r := by
 cases L with
 | nil => exact .inl ⟨rfl, rfl⟩
 | cons x L =>
  obtain ⟨r, hr⟩ := best_some (better := shorter) L x
  refine .inr ⟨r, by rw [bestL]; exact hr, ?_⟩
  have := best_min L [x] x r ⟨[], [], rfl, fun a h => (by cases h), fun b h => (by cases h)⟩ (by simpa using hp) hr
  simpa using this
end Go.Tel
open Nat renaming reduceBEq → qA, reduceAdd → qB, reduceSub → qC, reduceEqDiff → qD, reduceLT → qE, reduceLeDiff → qF
namespace Go.Am
end Go.Am
namespace Go.Tel
open Go.Am
end Go.Tel
namespace Go.Tel
open Go.Am
section
variable {p : Piece} {gone : List Int}
end
end Go.Tel
open Nat renaming reduceBEq → qA, reduceAdd → qB, reduceSub → qC, reduceEqDiff → qD, reduceLT → qE, reduceLeDiff → qF
namespace Go.Tel
open Go.Am
end Go.Tel
namespace Go.Tel
open Go.Am
theorem mem_allS (below : Int) : ∀ (k : Nat) (l : List Int), l ∈ allS below k ↔ (∀ x ∈ l, below - k ≤ x ∧ x < below) ∧ l.Pairwise (· < ·)
 | k, [] => by simp [allS]
 | 0, x :: l => by
  constructor
  ·intro h; simp [allS, allR] at h
  ·rintro ⟨h, _⟩
   have := h x List.mem_cons_self
   omega
 | k + 1, x :: l => by
  have ih := mem_allS below k
  rw [allS, List.mem_cons, allR, List.mem_append, List.mem_map]
  constructor
  ·rintro (h | ⟨y, hy, he⟩ | h)
   ·cases h
   ·obtain ⟨rfl, rfl⟩ := List.cons.inj he
    obtain ⟨h1, h2⟩ := (ih y).1 hy
    refine ⟨fun z hz => ?_, List.pairwise_cons.2 ⟨fun z hz => ?_, h2⟩⟩
    ·rcases List.mem_cons.1 hz with rfl | hz
     ·omega
     ·have := h1 z hz; omega
    ·have := h1 z hz; omega
   ·obtain ⟨h1, h2⟩ := (ih (x :: l)).1 (List.mem_cons_of_mem _ h)
    exact ⟨fun z hz => by have := h1 z hz; omega, h2⟩
  ·rintro ⟨h1, h2⟩
   right
   have hp := List.pairwise_cons.1 h2
   have hx := h1 x List.mem_cons_self
   by_cases e : x = below - (k + 1 : Nat)
   ·left
    refine ⟨l, (ih l).2 ⟨fun z hz => ?_, hp.2⟩, by rw [e]⟩
    have := hp.1 z hz
    have := h1 z (List.mem_cons_of_mem _ hz)
    omega
   ·right
    have : x :: l ∈ allS below k := (ih (x :: l)).2 ⟨fun z hz => by
     have hz' := h1 z hz
     rcases List.mem_cons.1 hz with rfl | hz2
     ·omega
     ·have := hp.1 z hz2; omega, h2⟩
    rcases List.mem_cons.1 this with h | h
    ·cases h
    ·exact h
theorem incGo_pw {B : Int} : ∀ {l : List Int} {prev : Option Int}, incGo B prev l = true ↔ (∀ x ∈ l, 0 ≤ x ∧ x ≤ B - 1) ∧ l.Pairwise (· < ·) ∧ ∀ q x, prev = some q → l.head? = some x → q < x
 | [], prev => by simp [incGo]
 | y :: l, prev => by
  have ih := incGo_pw (B := B) (l := l) (prev := some y)
  rw [incGo, Bool.and_eq_true, Bool.and_eq_true, ih]
  simp only [inR, Bool.and_eq_true, decide_eq_true_eq, Bool.not_eq_true', ge_iff_le]
  constructor
  ·rintro ⟨⟨h1, h2⟩, h3, h4, h5⟩
   refine ⟨fun z hz => ?_, List.pairwise_cons.2 ⟨fun z hz => ?_, h4⟩, fun q x hq hx => ?_⟩
   ·rcases List.mem_cons.1 hz with rfl | hz
    ·exact h1
    ·exact h3 z hz
   ·cases l with
    | nil => cases hz
    | cons w l =>
     have h0 := h5 y w rfl rfl
     rcases List.mem_cons.1 hz with rfl | hz
     ·exact h0
     ·have := (List.pairwise_cons.1 h4).1 z hz; omega
   ·cases hx
    subst hq
    simp only [above, decide_eq_false_iff_not] at h2
    omega
  ·rintro ⟨h1, h2, h3⟩
   have hp := List.pairwise_cons.1 h2
   refine ⟨⟨h1 y List.mem_cons_self, ?_⟩, fun z hz => h1 z (List.mem_cons_of_mem _ hz), hp.2, fun q x hq hx => ?_⟩
   ·cases prev with
    | none => rfl
    | some q =>
     have := h3 q y rfl rfl
     simp only [above, decide_eq_false_iff_not]; omega
   ·cases hq
    cases l with
    | nil => cases hx
    | cons w l => cases hx; exact hp.1 x List.mem_cons_self
theorem inc_allS {n : Nat} {l : List Int} : incGo (n : Int) none l = true ↔ l ∈ allS (n : Int) n := by
 rw [incGo_pw, mem_allS]
 constructor
 ·rintro ⟨h1, h2, _⟩
  exact ⟨fun x hx => by have := h1 x hx; omega, h2⟩
 ·rintro ⟨h1, h2⟩
  exact ⟨fun x hx => by have := h1 x hx; omega, h2, fun q x hq => by cases hq⟩
theorem cmpL_self : ∀ l : List Int, cmpL l l = 0
 | [] => rfl
 | x :: l => by rw [cmpL, if_neg (by omega), if_neg (by omega)]; exact cmpL_self l
end Go.Tel
open Nat renaming reduceBEq → qA, reduceAdd → qB, reduceSub → qC, reduceEqDiff → qD, reduceLT → qE, reduceLeDiff → qF
namespace Go.Tel
open Go.Am
set_option maxRecDepth 10000 in
theorem rRising_c (l : List Int) (n : Nat) (hn : n ≤ 1000) (hl : l.length ≤ 1000) : Pure C F.ref_Rising [.slice false (l.map intDV), .int .i64 n] (.d (.bool (incGo n none l))) [] := by
 have w1 : IntKind.i64.wrap ((n : Int) - 1) = (n : Int) - 1 := w64_in (by omega)
 refine pure_of_pwp_d mixed rfl ok_ref_Rising ?_
 simp only [pc_ref_Rising, rs_ref_Rising, RN, qA, qB, qC, qD, qE, qF]
 refine pwp_range l.length (fun i (_ : Unit) => ⟨[(0, .d (.slice false (l.map intDV))), (1, .d (.int .i64 n)), (5, .d (.int .i64 i))], ⟨[], [], []⟩⟩)
  (fun i _ => incGo n none l = incGo n (prevOf l i) (l.drop i)) 0 () (Nat.zero_le _) rfl rfl (fun i _ g1 hix => ?_) (fun _ hix => ?_)
 ·obtain ⟨g2, g3, g6⟩ := rng g1 (by omega)
  have hp : prevOf l (i + 1) = some (l.getD i default) := by rw [prevOf, if_neg (by omega), Nat.add_sub_cancel]
  rw [drop_cons g1, incGo, ← hp] at hix
  simp only [List.length_map, g2, g3, g1, Int.toNat_natCast, getD_map, dv_int, w1, RN, qA, qB, qC, qD, qE, qF]
  refine call_d rfl rfl (rin_c _ _ _) ?_
  cases h1 : inR (l.getD i default) 0 ((n : Int) - 1)
  ·rw [h1, Bool.false_and, Bool.false_and] at hix
   simp only [RN, qA, qB, qC, qD, qE, qF]
   rw [hix]
  rw [h1, Bool.true_and] at hix
  by_cases hi : i = 0
  ·have hz : ¬ (i : Int) > 0 := by omega
   have ha : above (prevOf l i) (l.getD i default) = false := by rw [prevOf, if_pos hi]; rfl
   rw [ha, Bool.not_false, Bool.true_and] at hix
   simp only [hz, g6, RN, qA, qB, qC, qD, qE, qF]
   exact up_same () g1 rfl hix (by simp) (by simp) rfl rfl
  have hz : (i : Int) > 0 := by omega
  have w2 : IntKind.i64.wrap ((i : Int) - 1) = ((i - 1 : Nat) : Int) := by rw [w64_in (by omega)]; omega
  have q1 : (0 : Int) ≤ ((i - 1 : Nat) : Int) := by omega
  have q2 : i - 1 < l.length := by omega
  have ha : above (prevOf l i) (l.getD i default) = decide (l.getD i default ≤ l.getD (i - 1) default) := by rw [prevOf, if_neg hi]; rfl
  rw [ha] at hix
  by_cases hle : l.getD i default ≤ l.getD (i - 1) default
  ·rw [decide_eq_true hle, Bool.not_true, Bool.false_and] at hix
   simp only [hz, g3, g1, w2, q1, q2, hle, Int.toNat_natCast, getD_map, dv_int, List.length_map, RN, qA, qB, qC, qD, qE, qF]
   rw [hix]
  ·rw [decide_eq_false hle, Bool.not_false, Bool.true_and] at hix
   simp only [hz, g3, g1, w2, q1, q2, hle, Int.toNat_natCast, getD_map, dv_int, List.length_map, g6, RN, qA, qB, qC, qD, qE, qF]
   exact up_same () g1 rfl hix (by simp) (by simp) rfl rfl
 ·rw [List.drop_length, incGo] at hix
  simp only [Int.lt_irrefl, List.length_map, RN, qA, qB, qC, qD, qE, qF]
  rw [hix]
set_option maxRecDepth 10000 in
theorem rBefore_c (a b : List Int) (ha : a.length ≤ 1000) (hb : b.length ≤ 1000) : Pure C F.ref_Before [.slice false (a.map intDV), .slice false (b.map intDV)] (.d (.bool (decide (cmpL a b < 0)))) [] := by
 refine pure_of_pwp_d mixed rfl ok_ref_Before ?_
 simp only [pc_ref_Before, rs_ref_Before, RN, qA, qB, qC, qD, qE, qF]
 refine pwp_range (min a.length b.length) (fun i (_ : Unit) => ⟨[(0, .d (.slice false (a.map intDV))), (1, .d (.slice false (b.map intDV))), (5, .d (.int .i64 i))], ⟨[], [], []⟩⟩)
  (fun i _ => cmpL a b = cmpL (a.drop i) (b.drop i)) 0 () (Nat.zero_le _) rfl rfl (fun i _ g1 hix => ?_) (fun _ hix => ?_)
 ·obtain ⟨ga, g3, g6⟩ := rng (show i < a.length by omega) (by omega)
  obtain ⟨gb, _, _⟩ := rng (show i < b.length by omega) (by omega)
  have ka : i < a.length := by omega
  have kb : i < b.length := by omega
  rw [drop_cons ka, drop_cons kb, cmpL] at hix
  by_cases he : a.getD i default = b.getD i default
  ·have e1 : (a.getD i default != b.getD i default) = false := by rw [bne, beq_iff_eq.2 he]; rfl
   rw [if_neg (by omega), if_neg (by omega)] at hix
   simp only [List.length_map, ga, gb, g3, ka, kb, Int.toNat_natCast, getD_map, dv_int, e1, g6, RN, qA, qB, qC, qD, qE, qF]
   exact up_same () g1 rfl hix (by simp) (by simp) rfl rfl
  ·have e1 : (a.getD i default != b.getD i default) = true := by rw [bne, beq_eq_false_iff_ne.2 he]; rfl
   simp only [List.length_map, ga, gb, g3, ka, kb, Int.toNat_natCast, getD_map, dv_int, e1, RN, qA, qB, qC, qD, qE, qF]
   by_cases hlt : a.getD i default < b.getD i default
   ·rw [if_pos hlt] at hix
    rw [hix, decide_eq_true hlt]; rfl
   ·rw [if_neg hlt, if_pos (by omega)] at hix
    rw [hix, decide_eq_false hlt]; rfl
 ·by_cases h1 : a.length < b.length
  ·have c1 : ¬ ((min a.length b.length : Nat) : Int) < (a.length : Int) := by omega
   have c2 : (a.length : Int) < (b.length : Int) := by omega
   rw [List.drop_of_length_le (l := a) (by omega), show min a.length b.length = a.length by omega, drop_cons h1] at hix
   simp only [List.length_map, c1, c2, RN, qA, qB, qC, qD, qE, qF]
   rw [hix]; rfl
  ·have c2 : ¬ (a.length : Int) < (b.length : Int) := by omega
   have c3 : ¬ ((min a.length b.length : Nat) : Int) < (b.length : Int) := by omega
   have hf : ¬ cmpL a b < 0 := by
    rw [hix, List.drop_of_length_le (l := b) (by omega)]
    cases a.drop (min a.length b.length) <;> (rw [cmpL]; omega)
   by_cases c1 : ((min a.length b.length : Nat) : Int) < (a.length : Int)
   ·simp only [List.length_map, c1, c2, c3, RN, qA, qB, qC, qD, qE, qF]
    rw [decide_eq_false hf]
   ·simp only [List.length_map, c1, c2, RN, qA, qB, qC, qD, qE, qF]
    rw [decide_eq_false hf]
end Go.Tel
namespace Go.Tel
open Go.Am
theorem best_law (s : List Int → Bool) (below : Int) (k : Nat) : (bestL shorter (someS s below k []) none = none ∧ ∀ o ∈ allS below k, s o = false) ∨
  ∃ r, bestL shorter (someS s below k []) none = some r ∧ r ∈ allS below k ∧ s r = true ∧ ∀ o ∈ allS below k, s o = true → ¬ (o.length < r.length ∨ o.length = r.length ∧ cmpL o r < 0) := by
 rw [someS_lex]
 have hp := (allR_ord below k).filter (p := s)
 rcases best_first hp with ⟨h1, h2⟩ | ⟨r, h2, h3⟩
 ·refine .inl ⟨h2, fun o ho => ?_⟩
  rw [List.filter_eq_nil_iff] at h1
  exact Bool.not_eq_true _ ▸ h1 o ho
 ·obtain ⟨A, B, hL, hA, hB⟩ := h3
  have hr := List.mem_filter.1 (show r ∈ (allS below k).filter s by rw [hL]; simp)
  refine .inr ⟨r, h2, hr.1, hr.2, fun o ho hs' hc => ?_⟩
  have hm : o ∈ A ++ r :: B := by rw [← hL]; exact List.mem_filter.2 ⟨ho, hs'⟩
  rw [hL] at hp
  rcases List.mem_append.1 hm with hm | hm
  ·have := hA o hm; omega
  ·rcases List.mem_cons.1 hm with he | hm
   ·rw [he] at hc
    rcases hc with hc | ⟨_, hc⟩
    ·omega
    ·rw [cmpL_self] at hc; omega
   ·have hb := hB o hm
    have ho := (List.pairwise_cons.1 (List.pairwise_append.1 hp).2.1).1 o hm
    rcases hc with hc | ⟨h4, h5⟩
    ·omega
    ·exact ho h4.symm h5
def Dvd.any (d : Dvd) (n : Int) : Bool := d.cir.any fun h => canCut d.worm h n
def Dvd.pick (d : Dvd) (l : List Int) : Dvd := ⟨d.worm, l.map fun i => d.cir.getD i.toNat default⟩
theorem cutGo_any (W t : Int) : ∀ (hs : List Int) (k : Nat), (cutGo W t k hs).isSome = hs.any fun h => canCut W h t
 | [], _ => rfl
 | a :: hs, k => by
  rw [cutGo, List.any_cons]
  cases canCut W a t
  ·rw [if_neg (by decide), cutGo_any W t hs (k + 1), Bool.false_or]
  ·rfl
theorem cuts_any {d : Dvd} (hok : d.ok = true) {n : Int} (hn : inR n 1 400 = true) : (d.cuts n).2 = if d.any n then 0 else 5 := by
 have e := cutGo_any d.worm n d.cir 0
 rw [Dvd.cuts, hok, hn, Dvd.any, ← e]
 cases cutGo d.worm n 0 d.cir <;> rfl
theorem pick_any (d : Dvd) (l : List Int) (n : Int) : (d.pick l).any n = l.any fun i => d.can n i := by
 rw [Dvd.any, Dvd.pick, List.any_map]; rfl
theorem pick_ok {d : Dvd} (hok : d.ok = true) {l : List Int} (h1 : 1 ≤ l.length) (h2 : l.length ≤ 6) (h3 : ∀ i ∈ l, 0 ≤ i ∧ i < (d.cir.length : Int)) : (d.pick l).ok = true := by
 obtain ⟨hw, hc, hcs⟩ := Dvd.ok_facts hok
 rw [Dvd.ok, Dvd.pick, Bool.and_eq_true, Bool.and_eq_true, List.all_eq_true]
 refine ⟨⟨by simp only [inR, Bool.and_eq_true, decide_eq_true_eq]; omega, by simp only [inR, List.length_map, Bool.and_eq_true, decide_eq_true_eq]; omega⟩, fun n hn => ?_⟩
 obtain ⟨i, hi, rfl⟩ := List.mem_map.1 hn
 have := h3 i hi
 have := hcs _ (getD_mem (show i.toNat < d.cir.length by omega))
 simp only [inR, Bool.and_eq_true, decide_eq_true_eq]
 omega
theorem allCut_all (d : Dvd) (counts l : List Int) : d.allCut counts l = counts.all fun n => l.any fun i => d.can n i := by
 rw [Dvd.allCut, any_not, Bool.not_not]
theorem full_mem (k : Nat) : ((List.range k).map fun (i : Nat) => (i : Int)) ∈ allS (k : Int) k := by
 rw [mem_allS]
 refine ⟨fun x hx => ?_, ?_⟩
 ·obtain ⟨i, hi, rfl⟩ := List.mem_map.1 hx
  have := List.mem_range.1 hi
  omega
 ·rw [List.pairwise_map]
  exact List.pairwise_lt_range.imp fun h => by omega
theorem full_any (d : Dvd) (n : Int) : (((List.range d.cir.length).map fun (i : Nat) => (i : Int)).any fun i => d.can n i) = d.any n := by
 rw [Bool.eq_iff_iff, List.any_map, List.any_eq_true, Dvd.any, List.any_eq_true]
 constructor
 ·rintro ⟨i, hi, h⟩
  have hi := List.mem_range.1 hi
  exact ⟨_, getD_mem hi, by simpa [Dvd.can] using h⟩
 ·rintro ⟨h, hm, hc⟩
  obtain ⟨i, hi, rfl⟩ := List.getElem_of_mem hm
  refine ⟨i, List.mem_range.2 hi, ?_⟩
  have e : d.cir.getD i default = d.cir[i] := by simp [List.getD_eq_getElem?_getD, hi]
  show d.can n (i : Int) = true
  rw [Dvd.can, Int.toNat_natCast, e]
  exact hc
theorem all_le {d : Dvd} {counts l : List Int} (hl : ∀ i ∈ l, 0 ≤ i ∧ i < (d.cir.length : Int)) (h : d.allCut counts l = true) : (counts.all fun n => d.any n) = true := by
 rw [allCut_all, List.all_eq_true] at h
 rw [List.all_eq_true]
 intro n hn
 have := h n hn
 rw [List.any_eq_true] at this
 obtain ⟨i, hi, hc⟩ := this
 have hr := hl i hi
 rw [Dvd.any, List.any_eq_true]
 exact ⟨_, getD_mem (show i.toNat < d.cir.length by omega), hc⟩
theorem allCut_full {d : Dvd} {counts : List Int} (h : (counts.all fun n => d.any n) = true) : d.allCut counts ((List.range d.cir.length).map fun (i : Nat) => (i : Int)) = true := by
 rw [allCut_all, List.all_eq_true]
 intro n hn
 rw [full_any]
 exact List.all_eq_true.1 h n hn
theorem allCut_more {d : Dvd} {c : Int} {counts l : List Int} (hl : ∀ i ∈ l, 0 ≤ i ∧ i < (d.cir.length : Int)) (h : d.allCut counts l = true) : (⟨d.worm, d.cir ++ [c]⟩ : Dvd).allCut counts l = true := by
 rw [allCut_all, List.all_eq_true] at h ⊢
 intro n hn
 have := h n hn
 rw [List.any_eq_true] at this ⊢
 obtain ⟨i, hi, hc⟩ := this
 refine ⟨i, hi, ?_⟩
 have hr := hl i hi
 rw [Dvd.can] at hc ⊢
 simp only [List.getD_eq_getElem?_getD] at hc ⊢
 rw [List.getElem?_append_left (by omega)]
 exact hc
theorem allS_more {k : Nat} {l : List Int} (h : l ∈ allS (k : Int) k) : l ∈ allS ((k + 1 : Nat) : Int) (k + 1) := by
 rw [mem_allS] at h ⊢
 exact ⟨fun x hx => by have := h.1 x hx; omega, h.2⟩
end Go.Tel
open Nat renaming reduceBEq → qA, reduceAdd → qB, reduceSub → qC, reduceEqDiff → qD, reduceLT → qE, reduceLeDiff → qF
namespace Go.Tel
open Go.Am
set_option maxRecDepth 10000 in
theorem rCount_c (n : Int) : Pure C F.ref_Count [.int .i64 n] (.d (.bool (inR n 1 400))) [] := by
 refine pure_of_pwp_d mixed rfl ok_ref_Count ?_
 simp only [pc_ref_Count, rs_ref_Count, RN, qA, qB, qC, qD, qE, qF]
 refine call_d rfl rfl (rin_c _ _ _) ?_
 simp only [RN, qA, qB, qC, qD, qE, qF]
def countsOk (l : List Int) : Bool := (l.all fun n => inR n 1 400) && inR l.length 1 6
set_option maxRecDepth 10000 in
theorem rCounts_c (l : List Int) (hl : l.length ≤ 1000) : Pure C F.ref_Counts [.slice false (l.map intDV)] (.d (.bool (countsOk l))) [] := by
 refine pure_of_pwp_d mixed rfl ok_ref_Counts ?_
 simp only [pc_ref_Counts, rs_ref_Counts, RN, qA, qB, qC, qD, qE, qF]
 refine pwp_range l.length (fun i (_ : Unit) => ⟨[(0, .d (.slice false (l.map intDV))), (3, .d (.int .i64 i))], ⟨[], [], []⟩⟩)
  (fun i _ => (l.all fun n => inR n 1 400) = ((l.drop i).all fun n => inR n 1 400)) 0 () (Nat.zero_le _) rfl rfl (fun i _ g1 hix => ?_) (fun _ hix => ?_)
 ·obtain ⟨g2, g3, g6⟩ := rng g1 (by omega)
  rw [drop_cons g1, List.all_cons] at hix
  simp only [List.length_map, g2, g3, g1, Int.toNat_natCast, getD_map, dv_int, RN, qA, qB, qC, qD, qE, qF]
  refine call_d rfl rfl (rCount_c _) ?_
  cases h1 : inR (l.getD i default) 1 400
  ·rw [h1, Bool.false_and] at hix
   simp only [RN, qA, qB, qC, qD, qE, qF]
   rw [countsOk, hix]; rfl
  ·rw [h1, Bool.true_and] at hix
   simp only [g6, RN, qA, qB, qC, qD, qE, qF]
   exact up_same () g1 rfl hix (by simp) (by simp) rfl rfl
 ·rw [List.drop_length, List.all_nil] at hix
  simp only [Int.lt_irrefl, List.length_map, RN, qA, qB, qC, qD, qE, qF]
  refine call_d rfl rfl (rin_c _ _ _) ?_
  rw [countsOk, hix]; rfl
set_option maxRecDepth 10000 in
theorem rDivider_c (d : Dvd) (hl : d.cir.length ≤ 1000) : Pure C F.ref_Divider [d.dv] (.d (.bool d.ok)) [] := by
 refine pure_of_pwp_d mixed rfl ok_ref_Divider ?_
 simp only [pc_ref_Divider, rs_ref_Divider, dv_Dvd, RN, qA, qB, qC, qD, qE, qF]
 refine pwp_range d.cir.length (fun i (_ : Unit) => ⟨[(1, .d (.cptr [.int .i64 d.worm, .slice false (d.cir.map intDV)])), (3, .d (.int .i64 i))], ⟨[some [.d (.int .i64 d.worm), .d (.slice false (d.cir.map intDV))]], [0], []⟩⟩)
  (fun i _ => (d.cir.all fun n => inR n 1 120) = ((d.cir.drop i).all fun n => inR n 1 120)) 0 () (Nat.zero_le _) rfl rfl (fun i _ g1 hix => ?_) (fun _ hix => ?_)
 ·obtain ⟨g2, g3, g6⟩ := rng g1 (by omega)
  rw [drop_cons g1, List.all_cons] at hix
  simp only [List.length_map, g2, g3, g1, Int.toNat_natCast, getD_map, dv_int, RN, qA, qB, qC, qD, qE, qF]
  refine call_d rfl rfl (rin_c _ _ _) ?_
  cases h1 : inR (d.cir.getD i default) 1 120
  ·rw [h1, Bool.false_and] at hix
   simp only [RN, qA, qB, qC, qD, qE, qF]
   rw [Dvd.ok, hix, Bool.and_false]
  ·rw [h1, Bool.true_and] at hix
   simp only [g6, RN, qA, qB, qC, qD, qE, qF]
   exact up_same () g1 rfl hix (by simp) (by simp) rfl rfl
 ·rw [List.drop_length, List.all_nil] at hix
  simp only [Int.lt_irrefl, List.length_map, RN, qA, qB, qC, qD, qE, qF]
  refine call_d rfl rfl (rin_c _ _ _) ?_
  cases h1 : inR d.worm 1 60
  ·simp only [RN, qA, qB, qC, qD, qE, qF]
   rw [Dvd.ok, h1]; rfl
  ·simp only [List.length_map, RN, qA, qB, qC, qD, qE, qF]
   refine call_d rfl rfl (rin_c _ _ _) ?_
   rw [Dvd.ok, h1, hix, Bool.and_true]; rfl
theorem counts_eq (l : List Int) : countsOk l = (inR l.length 1 6 && !(l.any fun n => !inR n 1 400)) := by
 rw [any_not, Bool.not_not, countsOk, Bool.and_comm]
theorem hasV_dvd {x : DV} (h : HasV dvdTy x) : ∃ d : Dvd, x = d.dv := by
 obtain ⟨h, hs⟩ := h
 obtain ⟨cs, rfl⟩ := hs.1 rfl
 obtain ⟨a, _, e1, h1⟩ := has_i h
 obtain ⟨b, _, rfl, h2⟩ := has_s has_in h1
 obtain rfl := has_nil h2
 exact ⟨⟨a, b⟩, by rw [Dvd.dv]; exact congrArg DV.agg e1⟩
structure SoS where
 c : PV
 ar : List (Option Arr)
set_option maxRecDepth 10000 in
set_option maxHeartbeats 1000000 in
theorem lsome_c (d : Dvd) (l : List Int) (hc : d.cir.length ≤ 1000) (hl : l.length ≤ 1000) (hls : ∀ i ∈ l, 0 ≤ i ∧ i < (d.cir.length : Int)) :
  Pure C F.law_some [d.dv, .slice false (l.map intDV)] (.d (d.pick l).dv) [] := by
 refine pure_of_pwp_fs mixed rfl ok_law_some ?_
 simp only [pc_law_some, rs_law_some, dv_Dvd, List.not_mem_nil, RN, qA, qB, qC, qD, qE, qF]
 refine pwp_range l.length (fun i (q : SoS) => ⟨[(1, .d (.slice false (l.map intDV))), (2, .d (.cptr [.int .i64 d.worm, .slice false (d.cir.map intDV)])), (4, .ptr 1 0), (5, .ptr 2 0), (6, .d (.int .i64 i))], ⟨[some [.d (.int .i64 d.worm), .d (.slice false (d.cir.map intDV))], some [.d (.int .i64 0), .d (.slice true [])], some [.d (.int .i64 d.worm), q.c]], [0], q.ar⟩⟩)
  (fun i q => sl 1 q.c (((l.take i).map fun i => d.cir.getD i.toNat default).map intDV) q.ar) 0 ⟨.d (.slice true []), []⟩ (Nat.zero_le _) rfl (.inl ⟨rfl, rfl⟩) (fun i q g1 hix => ?_) (fun q hix => ?_)
 ·obtain ⟨c, ar⟩ := q
  simp only at hix
  obtain ⟨g2, g3, g6⟩ := rng g1 (by omega)
  obtain ⟨o1, o2, o3⟩ := one_sl hix
  obtain ⟨v1, v2⟩ := hls _ (getD_mem g1)
  have v3 : (l.getD i default).toNat < d.cir.length := by omega
  have ht : l.take (i + 1) = l.take i ++ [l.getD i default] := by rw [take_snoc g1]
  have hlt := List.length_take_le i l
  simp only [g2, g3, g1, v1, v3, getD_map, dv_int, Int.toNat_natCast, List.length_map, List.not_mem_nil, o1, o2, o3, ev_mkSl1, DV.strip, dcells_int, RN, qA, qB, qC, qD, qE, qF]
  refine app_any hix (by decide) rfl (by simp only [List.length_map]; omega) (fun k v ar' h1 h2 => ?_)
  simp only [cells_t, one_t, g6, List.not_mem_nil, RN, qA, qB, qC, qD, qE, qF]
  refine up_refl ⟨.tsl k v 0, ar'⟩ g1 rfl (.inr ⟨k, v, rfl, ?_⟩)
  rw [h1, ht]
  simp only [List.map_append, List.map_cons, List.map_nil, dv_int]
 ·obtain ⟨c, ar⟩ := q
  simp only [List.take_length] at hix
  have e1 : (d.pick l).worm = d.worm := rfl
  have e2 : (d.pick l).cir = l.map fun i => d.cir.getD i.toNat default := rfl
  rw [e1, e2]
  generalize (l.map fun i => d.cir.getD i.toNat default).map intDV = xs at *
  rcases hix with ⟨rfl, rfl⟩ | ⟨k, v, rfl, hk⟩
  ·simp only [Int.lt_irrefl, List.length_map, List.not_mem_nil, RN, qA, qB, qC, qD, qE, qF]
   simp [datum, DV.strip]
  ·simp only [Int.lt_irrefl, List.length_map, allD_t, Option.map_none, aggO_none, cells_agg, isDead_agg, one_t, cells_t, List.not_mem_nil, RN, qA, qB, qC, qD, qE, qF]
   simp [datum, datum0L, datum0, row_m, hk, DV.strip]
end Go.Tel
open Nat renaming reduceBEq → qA, reduceAdd → qB, reduceSub → qC, reduceEqDiff → qD, reduceLT → qE, reduceLeDiff → qF
namespace Go.Am
theorem call_p {C : Ctx} {M : Mem} {K : PV → Mem → Prop} {base : Nat} {KP : DV → Mem → Prop} {f : FuncId} {args : List PV} {ds ds' : List DV} {x : DV} (h1 : datumL M args = some ds) (h2 : ds.map DV.strip = ds') (hp : Pure C f ds' (.d x) []) (hK : ∀ M', K (.d x) M') : runOp C base (.pcall f) args M K KP :=
 ⟨ds, h1, .d x, [], h2 ▸ hp, .inr ⟨fun A h => (by cases h), hK _⟩⟩
end Go.Am
namespace Go.Tel
open Go.Am
set_option maxRecDepth 10000 in
set_option maxHeartbeats 4000000 in
theorem PlateEnough_c (hkn : KnownC) (d : Dvd) (counts o : List Int) (c : Int) : Pure Go.Tel.C F.law_PlateEnough [d.dv, .slice false (counts.map intDV), .slice false (o.map intDV), .int .i64 c] (.d (.bool true)) [] := by
 have hkn : Pure C F.law_known [] (.d (.bool true)) [] := hkn
 have n0 : ((0 : Int) != 0) = false := rfl
 have y0 : ((0 : Int) == 0) = true := rfl
 have n5 : ((5 : Int) != 0) = true := rfl
 have n55 : ((5 : Int) != 5) = false := rfl
 have n50 : ((5 : Int) == 0) = false := rfl
 have f9 : ∀ {d : DV} {n : Nat}, d.fits n = true → ∀ y : DV, y = d → y.fits n = true := fun h y hy => by rw [hy]; exact h
 have bb1 : ((false == false) != true) = false := rfl
 have bb2 : ((true == true) != true) = false := rfl
 refine pure_of_pwp_d mixed rfl ok_law_PlateEnough ?_
 by_cases s1 : (d.cir.length : Int) > 8
 ·simp only [pc_law_PlateEnough, rs_law_PlateEnough, dv_Dvd, List.not_mem_nil, List.length_map, s1, RN, qA, qB, qC, qD, qE, qF]
  refine call_d rfl rfl hkn ?_
  simp only [RN, qA, qB, qC, qD, qE, qF]
 by_cases s2 : (counts.length : Int) > 8
 ·simp only [pc_law_PlateEnough, rs_law_PlateEnough, dv_Dvd, List.not_mem_nil, List.length_map, s1, s2, RN, qA, qB, qC, qD, qE, qF]
  refine call_d rfl rfl hkn ?_
  simp only [RN, qA, qB, qC, qD, qE, qF]
 by_cases s3 : (o.length : Int) > 8
 ·simp only [pc_law_PlateEnough, rs_law_PlateEnough, dv_Dvd, List.not_mem_nil, List.length_map, s1, s2, s3, RN, qA, qB, qC, qD, qE, qF]
  refine call_d rfl rfl hkn ?_
  simp only [RN, qA, qB, qC, qD, qE, qF]
 have h1 := rDivider_c d (by omega)
 have h2 := rCounts_c counts (by omega)
 have h3 := rRising_c o d.cir.length (by omega) (by omega)
 have h4 := Circles_c d counts (by omega) (by omega)
 have hca := fun n => Cuts_c d n (by omega)
 simp only [dv_Dvd, dv_Ix] at h1 h4 hca
 simp only [pc_law_PlateEnough, rs_law_PlateEnough, dv_Dvd, List.not_mem_nil, List.length_map, s1, s2, s3, RN, qA, qB, qC, qD, qE, qF]
 refine call_d rfl rfl h1 ?_
 cases hok : d.ok
 ·simp only [RN, qA, qB, qC, qD, qE, qF]
  refine call_d rfl rfl hkn ?_
  simp only [RN, qA, qB, qC, qD, qE, qF]
 simp only [RN, qA, qB, qC, qD, qE, qF]
 refine call_d rfl rfl h2 ?_
 cases hc : countsOk counts
 ·simp only [RN, qA, qB, qC, qD, qE, qF]
  refine call_d rfl rfl hkn ?_
  simp only [RN, qA, qB, qC, qD, qE, qF]
 by_cases ho0 : (o.length : Int) = 0
 ·have e0 : ((o.length : Int) == 0) = true := beq_iff_eq.2 ho0
  simp only [List.length_map, e0, RN, qA, qB, qC, qD, qE, qF]
  refine call_d rfl rfl hkn ?_
  simp only [RN, qA, qB, qC, qD, qE, qF]
 have e0 : ((o.length : Int) == 0) = false := beq_eq_false_iff_ne.2 ho0
 simp only [List.length_map, e0, RN, qA, qB, qC, qD, qE, qF]
 refine call_d rfl rfl h3 ?_
 cases hri : incGo (d.cir.length : Int) none o
 ·simp only [RN, qA, qB, qC, qD, qE, qF]
  refine call_d rfl rfl hkn ?_
  simp only [RN, qA, qB, qC, qD, qE, qF]
 obtain ⟨hw, hcl, hcs⟩ := Dvd.ok_facts hok
 have hom := inc_allS.1 hri
 have hor := fun i hi => ((mem_allS _ _ _).1 hom).1 i hi
 have hor' : ∀ i ∈ o, 0 ≤ i ∧ i < (d.cir.length : Int) := fun i hi => by have := hor i hi; omega
 have hol := allS_len hom
 have hpok := pick_ok hok (l := o) (by omega) (by omega) hor'
 have hso := lsome_c d o (by omega) (by omega) hor'
 have hpl : (d.pick o).cir.length = o.length := by simp [Dvd.pick]
 have hco := fun n => Cuts_c (d.pick o) n (by omega)
 simp only [dv_Dvd, dv_Ix] at hso hco
 have hcn : 1 ≤ counts.length := by
  simp only [countsOk, inR, Bool.and_eq_true, decide_eq_true_eq] at hc; omega
 have hpos : ∀ n ∈ counts, inR n 1 400 = true := fun n hn => by
  rw [countsOk, Bool.and_eq_true, List.all_eq_true] at hc
  exact hc.1 n hn
 have eqA : ∀ n, inR n 1 400 = true → ((d.cuts n).2 == 0) = d.any n := fun n hn => by
  rw [cuts_any hok hn]; cases d.any n <;> rfl
 have eqB : ∀ n, inR n 1 400 = true → (((d.pick o).cuts n).2 == 0) = o.any fun i => d.can n i := fun n hn => by
  rw [cuts_any hpok hn, pick_any]; cases (o.any fun i => d.can n i) <;> rfl
 have hc6 := hc
 rw [counts_eq] at hc6
 have e4 : d.circles counts = (match bestL shorter (someS (d.allCut counts) d.cir.length d.cir.length []) none with | none => (none, 5) | some x => (some x, 0)) := by
  rw [Dvd.circles, Bool.and_assoc, hc6, hok]; rfl
 have hdv2 := rDivider_c ⟨d.worm, d.cir ++ [c]⟩ (by simp only [List.length_append, List.length_singleton]; omega)
 have hci2 := Circles_c ⟨d.worm, d.cir ++ [c]⟩ counts (by simp only [List.length_append, List.length_singleton]; omega) (by omega)
 simp only [dv_Dvd, List.map_append, List.map_cons, List.map_nil, dv_int] at hdv2 hci2
 simp only [RN, qA, qB, qC, qD, qE, qF]
 refine call_d rfl rfl h4 ?_
 rcases best_law (d.allCut counts) d.cir.length d.cir.length with ⟨b1, b2⟩ | ⟨r, b1, b2, b3, b4⟩
 ·rw [b1] at e4
  simp only [e4, bestD_n, n5, n55, n50, RN, qA, qB, qC, qD, qE, qF]
  refine pwp_range counts.length (fun i (q : Bool × Bool) => ⟨[(1, .d (.slice false (counts.map intDV))), (2, .d (.slice false (o.map intDV))), (3, .d (.int .i64 c)), (4, .d (.cptr [.int .i64 d.worm, .slice false (d.cir.map intDV)])), (9, .d (.slice true [])), (10, .d (.int .i64 5)), (11, .d (.bool q.1)), (12, .d (.bool q.2)), (13, .d (.int .i64 i))], ⟨[some [.d (.int .i64 d.worm), .d (.slice false (d.cir.map intDV))]], [0], []⟩⟩)
   (fun i q => (counts.all fun n => d.any n) = (q.1 && (counts.drop i).all fun n => d.any n) ∧ d.allCut counts o = (q.2 && (counts.drop i).all fun n => o.any fun i => d.can n i)) 0 (true, true) (Nat.zero_le _) rfl ⟨rfl, allCut_all d counts o⟩ (fun i q g1 hix => ?_) (fun q hix => ?_)
  ·obtain ⟨a, s⟩ := q
   obtain ⟨p1, p2⟩ := hix
   simp only at p1 p2
   obtain ⟨g2, g3, g6⟩ := rng g1 (by omega)
   rw [drop_cons g1, List.all_cons, ← Bool.and_assoc] at p1 p2
   have hin := hpos _ (getD_mem g1)
   have hcm := getD_mem g1
   generalize hne : counts.getD i default = n at *
   have hA := hca n
   have hB := hco n
   have eA := eqA n hin
   have eB := eqB n hin
   cases a <;> cases s
   all_goals
    simp only [g2, g3, g1, hne, getD_map, dv_int, Int.toNat_natCast, List.length_map, y0, n50, RN, qA, qB, qC, qD, qE, qF]
    refine call_d rfl rfl hA ?_
    simp only [g3, g1, hne, getD_map, dv_int, Int.toNat_natCast, List.length_map, RN, qA, qB, qC, qD, qE, qF]
    refine call_d rfl rfl hso ?_
    refine call_d rfl rfl hB ?_
    simp only [eA, eB, g6, RN, qA, qB, qC, qD, qE, qF]
    exact up_take 1 0 (_, _) g1 rfl ⟨p1, p2⟩ (by simp) (by simp) rfl rfl
  ·obtain ⟨a, s⟩ := q
   obtain ⟨p1, p2⟩ := hix
   simp only [List.drop_length, List.all_nil, Bool.and_true] at p1 p2
   have ha : a = false := by
    rw [← p1, ← Bool.not_eq_true]
    intro hh
    have := b2 _ (full_mem d.cir.length)
    rw [allCut_full hh] at this; cases this
   have hs : s = false := by rw [← p2]; exact b2 o hom
   subst ha hs
   simp only [Int.lt_irrefl, List.length_map, n50, n5, bb1, List.not_mem_nil, RN, qA, qB, qC, qD, qE, qF]
   refine ⟨ints_fit d.cir, by simp, by simp, by omega, rfl, f9 rfl, by simp, by omega, ?_⟩
   simp only [cells_t, one_t, allD_t, Option.map_none, aggO_none, cells_agg, isDead_agg, List.not_mem_nil, RN, qA, qB, qC, qD, qE, qF]
   refine call_f (ds := [.agg [.int .i64 d.worm, .slice false (d.cir.map intDV ++ [DV.int .i64 c])]]) (by simp [datumL, datum, datum0L, datum0, row_m, DV.strip]) rfl hdv2 rfl ?_
   cases hd2 : (⟨d.worm, d.cir ++ [c]⟩ : Dvd).ok
   ·simp only [RN, qA, qB, qC, qD, qE, qF]
    refine call_d rfl rfl hkn ?_
    simp only [RN, qA, qB, qC, qD, qE, qF]
   ·simp only [n5, RN, qA, qB, qC, qD, qE, qF]
    refine call_d rfl rfl hkn ?_
    simp only [RN, qA, qB, qC, qD, qE, qF]
 ·rw [b1] at e4
  have hrr : ∀ i ∈ r, 0 ≤ i ∧ i < (d.cir.length : Int) := fun i hi => by have := ((mem_allS _ _ _).1 b2).1 i hi; omega
  have hrl := allS_len b2
  have hr1 : 1 ≤ r.length := by
   rcases Nat.eq_zero_or_pos r.length with hz | hz
   ·rw [List.length_eq_zero_iff.1 hz, allCut_all, List.all_eq_true] at b3
    have := b3 _ (getD_mem (show 0 < counts.length by omega))
    simp at this
   ·exact hz
  have hrs := lsome_c d r (by omega) (by omega) hrr
  have hrok := pick_ok hok (l := r) (by omega) (by omega) hrr
  have hrp : (d.pick r).cir.length = r.length := by simp [Dvd.pick]
  have hcr := fun n => Cuts_c (d.pick r) n (by omega)
  have hri2 := rRising_c r d.cir.length (by omega) (by omega)
  rw [inc_allS.2 b2] at hri2
  have eqR : ∀ n, n ∈ counts → ((d.pick r).cuts n).2 = 0 := fun n hn => by
   rw [cuts_any hrok (hpos n hn), pick_any]
   rw [allCut_all, List.all_eq_true] at b3
   rw [b3 n hn]; rfl
  have hbf := rBefore_c o r (by omega) (by omega)
  have hnb := b4 o hom
  have f1 : ((r.length : Int) == 0) = false := beq_eq_false_iff_ne.2 (by omega)
  have f2 : ¬ (r.length : Int) > (d.cir.length : Int) := by omega
  simp only [dv_Dvd, dv_Ix] at hrs hcr
  simp only [e4, bestD_s, n0, y0, f1, f2, List.length_map, RN, qA, qB, qC, qD, qE, qF]
  refine call_d rfl rfl hri2 ?_
  simp only [RN, qA, qB, qC, qD, qE, qF]
  refine pwp_range counts.length (fun i (q : Bool × Bool) => ⟨[(1, .d (.slice false (counts.map intDV))), (2, .d (.slice false (o.map intDV))), (3, .d (.int .i64 c)), (4, .d (.cptr [.int .i64 d.worm, .slice false (d.cir.map intDV)])), (9, .d (.slice false (r.map intDV))), (10, .d (.int .i64 0)), (11, .d (.bool q.1)), (12, .d (.bool q.2)), (13, .d (.int .i64 i))], ⟨[some [.d (.int .i64 d.worm), .d (.slice false (d.cir.map intDV))]], [0], []⟩⟩)
   (fun i q => (counts.all fun n => d.any n) = (q.1 && (counts.drop i).all fun n => d.any n) ∧ d.allCut counts o = (q.2 && (counts.drop i).all fun n => o.any fun i => d.can n i)) 0 (true, true) (Nat.zero_le _) rfl ⟨rfl, allCut_all d counts o⟩ (fun i q g1 hix => ?_) (fun q hix => ?_)
  ·obtain ⟨a, s⟩ := q
   obtain ⟨p1, p2⟩ := hix
   simp only at p1 p2
   obtain ⟨g2, g3, g6⟩ := rng g1 (by omega)
   rw [drop_cons g1, List.all_cons, ← Bool.and_assoc] at p1 p2
   have hin := hpos _ (getD_mem g1)
   have hcm := getD_mem g1
   generalize hne : counts.getD i default = n at *
   have hA := hca n
   have hB := hco n
   have eA := eqA n hin
   have eB := eqB n hin
   have hR := hcr n
   rw [eqR n hcm] at hR
   cases a <;> cases s
   all_goals
    simp only [g2, g3, g1, hne, getD_map, dv_int, Int.toNat_natCast, List.length_map, y0, n50, RN, qA, qB, qC, qD, qE, qF]
    refine call_d rfl rfl hrs ?_
    refine call_d rfl rfl hR ?_
    simp only [n0, g3, g1, hne, getD_map, dv_int, Int.toNat_natCast, List.length_map, RN, qA, qB, qC, qD, qE, qF]
    refine call_d rfl rfl hA ?_
    simp only [g3, g1, hne, getD_map, dv_int, Int.toNat_natCast, List.length_map, RN, qA, qB, qC, qD, qE, qF]
    refine call_d rfl rfl hso ?_
    refine call_d rfl rfl hB ?_
    simp only [eA, eB, g6, RN, qA, qB, qC, qD, qE, qF]
    exact up_take 1 0 (_, _) g1 rfl ⟨p1, p2⟩ (by simp) (by simp) rfl rfl
  ·obtain ⟨a, s⟩ := q
   obtain ⟨p1, p2⟩ := hix
   simp only [List.drop_length, List.all_nil, Bool.and_true] at p1 p2
   have ha : a = true := by rw [← p1]; exact all_le hrr b3
   subst ha
   have fin : ∃ r2, (⟨d.worm, d.cir ++ [c]⟩ : Dvd).ok = true → (⟨d.worm, d.cir ++ [c]⟩ : Dvd).circles counts = (some r2, 0) ∧ r2.length ≤ r.length := by
    have hl1 : (d.cir ++ [c]).length = d.cir.length + 1 := by simp
    have hr2 : r ∈ allS ((d.cir.length + 1 : Nat) : Int) (d.cir.length + 1) := allS_more b2
    rcases best_law ((⟨d.worm, d.cir ++ [c]⟩ : Dvd).allCut counts) ((d.cir.length + 1 : Nat) : Int) (d.cir.length + 1) with ⟨_, x2⟩ | ⟨r2, x1, _, _, x4⟩
    ·have := x2 r hr2
     rw [allCut_more hrr b3] at this; cases this
    ·refine ⟨r2, fun hd2 => ⟨?_, ?_⟩⟩
     ·rw [Dvd.circles, Bool.and_assoc, hc6, hd2, Bool.true_and, if_pos rfl]
      simp only [hl1, x1]
     ·have := x4 r hr2 (allCut_more hrr b3)
      omega
   obtain ⟨r2, fin⟩ := fin
   cases s
   ·simp only [Int.lt_irrefl, List.length_map, n0, y0, bb2, List.not_mem_nil, RN, qA, qB, qC, qD, qE, qF]
    refine ⟨ints_fit d.cir, by simp, by simp, by omega, rfl, f9 rfl, by simp, by omega, ?_⟩
    simp only [cells_t, one_t, allD_t, Option.map_none, aggO_none, cells_agg, isDead_agg, List.not_mem_nil, RN, qA, qB, qC, qD, qE, qF]
    refine call_f (ds := [.agg [.int .i64 d.worm, .slice false (d.cir.map intDV ++ [DV.int .i64 c])]]) (by simp [datumL, datum, datum0L, datum0, row_m, DV.strip]) rfl hdv2 rfl ?_
    cases hd2 : (⟨d.worm, d.cir ++ [c]⟩ : Dvd).ok
    ·simp only [RN, qA, qB, qC, qD, qE, qF]
     refine call_d rfl rfl hkn ?_
     simp only [RN, qA, qB, qC, qD, qE, qF]
    obtain ⟨z1, z2⟩ := fin hd2
    rw [z1] at hci2
    have z3 : (r2.length : Int) ≤ (r.length : Int) := by omega
    simp only [n0, RN, qA, qB, qC, qD, qE, qF]
    refine call_p (ds := [.agg [.int .i64 d.worm, .slice false (d.cir.map intDV ++ [DV.int .i64 c])], .slice false (counts.map intDV)]) (by simp [datumL, datum, datum0L, datum0, row_m, DV.strip, allD_t, Option.map_none, aggO_none, cells_agg, isDead_agg]) rfl hci2 fun M9 => ?_
    simp only [bestD_s, y0, z3, List.length_map, RN, qA, qB, qC, qD, qE, qF]
    refine call_d rfl rfl hkn ?_
    simp only [RN, qA, qB, qC, qD, qE, qF]
   have hnb := hnb (by rw [p2])
   have t1 : ¬ (o.length : Int) < (r.length : Int) := by omega
   by_cases t2 : (o.length : Int) = (r.length : Int)
   ·have t3 : ((o.length : Int) == (r.length : Int)) = true := beq_iff_eq.2 t2
    have t4 : decide (cmpL o r < 0) = false := decide_eq_false (by omega)
    rw [t4] at hbf
    simp only [Int.lt_irrefl, List.length_map, n0, y0, bb2, t1, t3, List.not_mem_nil, RN, qA, qB, qC, qD, qE, qF]
    refine call_d rfl rfl hbf ?_
    simp only [List.length_map, List.not_mem_nil, RN, qA, qB, qC, qD, qE, qF]
    refine ⟨ints_fit d.cir, by simp, by simp, by omega, rfl, f9 rfl, by simp, by omega, ?_⟩
    simp only [cells_t, one_t, allD_t, Option.map_none, aggO_none, cells_agg, isDead_agg, List.not_mem_nil, RN, qA, qB, qC, qD, qE, qF]
    refine call_f (ds := [.agg [.int .i64 d.worm, .slice false (d.cir.map intDV ++ [DV.int .i64 c])]]) (by simp [datumL, datum, datum0L, datum0, row_m, DV.strip]) rfl hdv2 rfl ?_
    cases hd2 : (⟨d.worm, d.cir ++ [c]⟩ : Dvd).ok
    ·simp only [RN, qA, qB, qC, qD, qE, qF]
     refine call_d rfl rfl hkn ?_
     simp only [RN, qA, qB, qC, qD, qE, qF]
    obtain ⟨z1, z2⟩ := fin hd2
    rw [z1] at hci2
    have z3 : (r2.length : Int) ≤ (r.length : Int) := by omega
    simp only [n0, RN, qA, qB, qC, qD, qE, qF]
    refine call_p (ds := [.agg [.int .i64 d.worm, .slice false (d.cir.map intDV ++ [DV.int .i64 c])], .slice false (counts.map intDV)]) (by simp [datumL, datum, datum0L, datum0, row_m, DV.strip, allD_t, Option.map_none, aggO_none, cells_agg, isDead_agg]) rfl hci2 fun M9 => ?_
    simp only [bestD_s, y0, z3, List.length_map, RN, qA, qB, qC, qD, qE, qF]
    refine call_d rfl rfl hkn ?_
    simp only [RN, qA, qB, qC, qD, qE, qF]
   ·have t3 : ((o.length : Int) == (r.length : Int)) = false := beq_eq_false_iff_ne.2 t2
    simp only [Int.lt_irrefl, List.length_map, n0, y0, bb2, t1, t3, List.not_mem_nil, RN, qA, qB, qC, qD, qE, qF]
    refine ⟨ints_fit d.cir, by simp, by simp, by omega, rfl, f9 rfl, by simp, by omega, ?_⟩
    simp only [cells_t, one_t, allD_t, Option.map_none, aggO_none, cells_agg, isDead_agg, List.not_mem_nil, RN, qA, qB, qC, qD, qE, qF]
    refine call_f (ds := [.agg [.int .i64 d.worm, .slice false (d.cir.map intDV ++ [DV.int .i64 c])]]) (by simp [datumL, datum, datum0L, datum0, row_m, DV.strip]) rfl hdv2 rfl ?_
    cases hd2 : (⟨d.worm, d.cir ++ [c]⟩ : Dvd).ok
    ·simp only [RN, qA, qB, qC, qD, qE, qF]
     refine call_d rfl rfl hkn ?_
     simp only [RN, qA, qB, qC, qD, qE, qF]
    obtain ⟨z1, z2⟩ := fin hd2
    rw [z1] at hci2
    have z3 : (r2.length : Int) ≤ (r.length : Int) := by omega
    simp only [n0, RN, qA, qB, qC, qD, qE, qF]
    refine call_p (ds := [.agg [.int .i64 d.worm, .slice false (d.cir.map intDV ++ [DV.int .i64 c])], .slice false (counts.map intDV)]) (by simp [datumL, datum, datum0L, datum0, row_m, DV.strip, allD_t, Option.map_none, aggO_none, cells_agg, isDead_agg]) rfl hci2 fun M9 => ?_
    simp only [bestD_s, y0, z3, List.length_map, RN, qA, qB, qC, qD, qE, qF]
    refine call_d rfl rfl hkn ?_
    simp only [RN, qA, qB, qC, qD, qE, qF]
end Go.Tel
