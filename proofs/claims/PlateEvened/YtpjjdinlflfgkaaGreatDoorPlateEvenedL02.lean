/-
  Part 2 of the proof of a law of plates, the law itself: an abstract machine over the model, contracts of functions, plain laws.
  Conditions: none.
-/
import Derived.Test.YtpjjdinlflfgkaaGreatDoorPlateEvenedL01
set_option linter.all false
namespace Go.Tel
end Go.Tel
open Nat renaming reduceBEq → qA, reduceAdd → qB, reduceSub → qC, reduceEqDiff → qD, reduceLT → qE, reduceLeDiff → qF
namespace Go.Tel
open Go.Am
end Go.Tel
open Nat renaming reduceBEq → qA, reduceAdd → qB, reduceSub → qC, reduceEqDiff → qD, reduceLT → qE, reduceLeDiff → qF
namespace Go.Tel
open Go.Am
end Go.Tel
namespace Go.Tel
open Go.Am
end Go.Tel
open Nat renaming reduceBEq → qA, reduceAdd → qB, reduceSub → qC, reduceEqDiff → qD, reduceLT → qE, reduceLeDiff → qF
namespace Go.Tel
open Go.Am
end Go.Tel
namespace Go.Tel
open Go.Am
theorem inc_ext : ∀ {a b : List Int}, a.Pairwise (· < ·) → b.Pairwise (· < ·) → (∀ x, x ∈ a ↔ x ∈ b) → a = b
 | [], [], _, _, _ => rfl
 | [], y :: b, _, _, h => absurd ((h y).2 List.mem_cons_self) (by simp)
 | x :: a, [], _, _, h => absurd ((h x).1 List.mem_cons_self) (by simp)
 | x :: a, y :: b, ha, hb, h => by
  rw [List.pairwise_cons] at ha hb
  have hxy : x = y := by
   rcases List.mem_cons.1 ((h x).1 List.mem_cons_self) with h1 | h1
   ·exact h1
   ·rcases List.mem_cons.1 ((h y).2 List.mem_cons_self) with h2 | h2
    ·exact h2.symm
    ·have := hb.1 x h1; have := ha.1 y h2; omega
  subst hxy
  congr 1
  refine inc_ext ha.2 hb.2 fun z => ⟨fun hz => ?_, fun hz => ?_⟩
  ·rcases List.mem_cons.1 ((h z).1 (List.mem_cons_of_mem _ hz)) with h1 | h1
   ·subst h1; have := ha.1 z hz; omega
   ·exact h1
  ·rcases List.mem_cons.1 ((h z).2 (List.mem_cons_of_mem _ hz)) with h1 | h1
   ·subst h1; have := hb.1 z hz; omega
   ·exact h1
def metS (holes steps : Int) (c : Nat) (starts : List Int) (h : Int) : Bool := starts.any fun s => (List.range c).any fun (k : Nat) => (s + (k : Int) * steps).tmod holes == h
def rMarks (holes steps : Int) (c : Nat) (starts : List Int) : List Int := (upTo holes.toNat).filter (metS holes steps c starts)
theorem raw_iff {holes steps : Int} {c : Nat} {x : Int} : ∀ {starts : List Int}, x ∈ rawMarks holes steps c starts ↔ metS holes steps c starts x = true
 | [] => by simp [rawMarks, metS]
 | s :: l => by
  have ih := raw_iff (holes := holes) (steps := steps) (c := c) (x := x) (starts := l)
  rw [rawMarks, List.mem_append, ih, metS, metS, List.any_cons, Bool.or_eq_true]
  refine or_congr ?_ Iff.rfl
  simp only [rawRow, List.mem_map, List.any_eq_true, beq_iff_eq]
theorem cmpct_all : ∀ {l : List Int} {p x : Int}, x ∈ l → x = p ∨ x ∈ cmpct p l
 | [], _, _, h => by cases h
 | y :: l, p, x, h => by
  rw [cmpct]
  rcases List.mem_cons.1 h with rfl | h
  ·by_cases e : x = p
   ·exact .inl e
   ·rw [if_neg e]; exact .inr List.mem_cons_self
  ·split
   ·exact cmpct_all h
   ·rcases cmpct_all (p := y) h with rfl | h
    ·exact .inr List.mem_cons_self
    ·exact .inr (List.mem_cons_of_mem _ h)
theorem compact_iff {l : List Int} {x : Int} : x ∈ compactL l ↔ x ∈ l := by
 refine ⟨compactL_mem, fun h => ?_⟩
 cases l with
 | nil => cases h
 | cons y l =>
  rw [compactL]
  rcases List.mem_cons.1 h with rfl | h
  ·exact List.mem_cons_self
  ·rcases cmpct_all (p := y) h with rfl | h
   ·exact List.mem_cons_self
   ·exact List.mem_cons_of_mem _ h
theorem cmpct_inc : ∀ {l : List Int} {p : Int}, (p :: l).Pairwise (· ≤ ·) → (p :: cmpct p l).Pairwise (· < ·)
 | [], p, _ => by simp [cmpct]
 | y :: l, p, h => by
  rw [List.pairwise_cons] at h
  rw [cmpct]
  by_cases e : y = p
  ·rw [if_pos e]
   subst e
   exact cmpct_inc h.2
  ·rw [if_neg e]
   have ih := cmpct_inc h.2
   have hpy : p < y := by have := h.1 y List.mem_cons_self; omega
   refine List.pairwise_cons.2 ⟨fun z hz => ?_, ih⟩
   rcases List.mem_cons.1 hz with rfl | hz
   ·exact hpy
   ·have := (List.pairwise_cons.1 ih).1 z hz; omega
theorem compact_inc {l : List Int} (h : l.Pairwise (· ≤ ·)) : (compactL l).Pairwise (· < ·) := by
 cases l with
 | nil => simp [compactL]
 | cons y l => exact cmpct_inc h
theorem sort_inc (l : List Int) : (l.mergeSort fun x y => decide (x ≤ y)).Pairwise (· ≤ ·) := by
 have := List.pairwise_mergeSort (le := fun x y : Int => decide (x ≤ y)) (fun a b c h1 h2 => by simp only [decide_eq_true_eq] at *; omega) (fun a b => by simp only [Bool.or_eq_true, decide_eq_true_eq]; omega) l
 exact this.imp fun h => by simpa using h
theorem upTo_inc (n : Nat) : (upTo n).Pairwise (· < ·) := by
 rw [upTo, List.pairwise_map]
 exact List.pairwise_lt_range.imp fun h => by simp only [Int.ofNat_eq_natCast]; omega
theorem mem_upTo {n : Nat} {x : Int} : x ∈ upTo n ↔ 0 ≤ x ∧ x < n := by
 rw [upTo, List.mem_map]
 refine ⟨?_, fun h => ⟨x.toNat, List.mem_range.2 (by omega), by simp only [Int.ofNat_eq_natCast]; omega⟩⟩
 rintro ⟨i, hi, rfl⟩
 have := List.mem_range.1 hi
 simp only [Int.ofNat_eq_natCast]; omega
theorem marks_same {holes steps cuts : Int} {starts : List Int} (h : marksOk holes steps cuts starts = true) : outMarks holes steps cuts starts = rMarks holes steps cuts.toNat starts := by
 have hk := h
 simp only [marksOk, inR, Bool.and_eq_true, decide_eq_true_eq, List.all_eq_true, ge_iff_le] at hk
 have hr := rawMarks_mem (holes := holes) (steps := steps) (c := cuts.toNat) hk.1.1.1.1.1 hk.1.1.1.2.1 (starts := starts) (fun s hs => (hk.2 s hs).1)
 refine inc_ext (compact_inc (sort_inc _)) ((upTo_inc _).filter _) fun x => ?_
 rw [outMarks, compact_iff, List.mem_mergeSort, raw_iff, rMarks, List.mem_filter, mem_upTo]
 refine ⟨fun hx => ⟨?_, hx⟩, fun hx => hx.2⟩
 have := hr x (raw_iff.2 hx)
 omega
end Go.Tel
namespace Go.Tel
open Go.Am
theorem byGo_dvd {m0 : Int} : ∀ {l : List Int} {g : Nat}, byGo m0 l g ∣ g ∧ ∀ n ∈ l, byGo m0 l g ∣ (n - m0).natAbs
 | [], g => ⟨Nat.dvd_refl _, fun n h => by cases h⟩
 | n :: l, g => by
  obtain ⟨h1, h2⟩ := byGo_dvd (m0 := m0) (l := l) (g := Nat.gcd g (n - m0).natAbs)
  rw [byGo]
  refine ⟨Nat.dvd_trans h1 (Nat.gcd_dvd_left _ _), fun x hx => ?_⟩
  rcases List.mem_cons.1 hx with rfl | hx
  ·exact Nat.dvd_trans h1 (Nat.gcd_dvd_right _ _)
  ·exact h2 x hx
theorem dvd_byGo {m0 : Int} {d : Nat} : ∀ {l : List Int} {g : Nat}, d ∣ g → (∀ n ∈ l, d ∣ (n - m0).natAbs) → d ∣ byGo m0 l g
 | [], _, h, _ => h
 | n :: l, g, h, hl => by
  rw [byGo]
  exact dvd_byGo (Nat.dvd_gcd h (hl n List.mem_cons_self)) fun x hx => hl x (List.mem_cons_of_mem _ hx)
theorem mem_step {holes : Int} {g : Nat} (hg : 0 < g) {x : Int} : ∀ {k : Nat} {s : Int}, x ∈ stepGo holes (g : Int) k s ↔ ∃ j : Nat, j < k ∧ x = s + (j : Int) * g ∧ x < holes
 | 0, s => by simp [stepGo]
 | k + 1, s => by
  rw [stepGo]
  by_cases hs : s < holes
  ·rw [if_pos hs, List.mem_cons, mem_step hg (k := k)]
   constructor
   ·rintro (rfl | ⟨j, h1, h2, h3⟩)
    ·exact ⟨0, by omega, by simp, hs⟩
    ·exact ⟨j + 1, by omega, by rw [h2, Int.natCast_add, Int.add_mul]; omega, h3⟩
   ·rintro ⟨j, h1, h2, h3⟩
    cases j with
    | zero => left; simpa using h2
    | succ j => exact .inr ⟨j, by omega, by rw [h2, Int.natCast_add, Int.add_mul]; omega, h3⟩
  ·rw [if_neg hs]
   constructor
   ·intro h; cases h
   ·rintro ⟨j, h1, h2, h3⟩
    have : 0 ≤ (j : Int) * g := Int.mul_nonneg (by omega) (by omega)
    omega
theorem mem_even {H g : Nat} (hg : 0 < g) {x m : Int} (hm : 0 ≤ m) (hx : 0 ≤ x ∧ x < H) : x ∈ stepGo (H : Int) (g : Int) H (m.tmod g) ↔ g ∣ (x - m).natAbs := by
 rw [mem_step hg]
 rw [Int.tmod_eq_emod_of_nonneg hm]
 have hr0 := Int.emod_nonneg m (b := (g : Int)) (by omega)
 have hr1 := Int.emod_lt_of_pos m (b := (g : Int)) (by omega)
 have hmq := Int.mul_ediv_add_emod m g
 constructor
 ·rintro ⟨j, h1, h2, h3⟩
  have hd : (g : Int) ∣ x - m := ⟨(j : Int) - m / g, by rw [Int.mul_sub, h2, Int.mul_comm (g : Int) (j : Int)]; omega⟩
  exact Int.natAbs_dvd_natAbs.2 hd
 ·intro h
  obtain ⟨q, hq⟩ := Int.natAbs_dvd_natAbs.1 (show (g : Int).natAbs ∣ (x - m).natAbs from h)
  have e : x = m % g + (q + m / g) * g := by
   rw [Int.add_mul, Int.mul_comm q, Int.mul_comm (m / g)]; omega
  have hj : 0 ≤ q + m / g := by
   refine Int.not_lt.1 fun hn => ?_
   have h1 : (q + m / g) * g ≤ (-1) * g := Int.mul_le_mul_of_nonneg_right (by omega) (by omega)
   omega
  refine ⟨(q + m / g).toNat, ?_, ?_, hx.2⟩
  ·have h1 : (q + m / g) * 1 ≤ (q + m / g) * g := Int.mul_le_mul_of_nonneg_left (by omega) hj
   omega
  ·rw [Int.toNat_of_nonneg hj]; exact e
end Go.Tel
open Nat renaming reduceBEq → qA, reduceAdd → qB, reduceSub → qC, reduceEqDiff → qD, reduceLT → qE, reduceLeDiff → qF
namespace Go.Tel
open Go.Am
set_option maxRecDepth 10000 in
theorem rListed_c (l : List Int) (n : Int) (hl : l.length ≤ 1000000) : Pure C F.ref_Listed [.slice false (l.map intDV), .int .i64 n] (.d (.bool (l.contains n))) [] := by
 refine pure_of_pwp_d mixed rfl ok_ref_Listed ?_
 simp only [pc_ref_Listed, rs_ref_Listed, RN, qA, qB, qC, qD, qE, qF]
 refine pwp_range l.length (fun i (_ : Unit) => ⟨[(0, .d (.slice false (l.map intDV))), (1, .d (.int .i64 n)), (5, .d (.int .i64 i))], ⟨[], [], []⟩⟩)
  (fun i _ => l.contains n = (l.drop i).contains n) 0 () (Nat.zero_le _) rfl rfl (fun i _ g1 hix => ?_) (fun _ hix => ?_)
 ·obtain ⟨g2, g3, g6⟩ := rng g1 hl
  rw [drop_cons g1, List.contains_cons] at hix
  by_cases he : l.getD i default = n
  ·have e1 : (l.getD i default == n) = true := beq_iff_eq.2 he
   rw [show (n == l.getD i default) = true from beq_iff_eq.2 he.symm, Bool.true_or] at hix
   simp only [List.length_map, g2, g3, g1, Int.toNat_natCast, getD_map, dv_int, e1, RN, qA, qB, qC, qD, qE, qF]
   rw [hix]
  ·have e1 : (l.getD i default == n) = false := beq_eq_false_iff_ne.2 he
   rw [show (n == l.getD i default) = false from beq_eq_false_iff_ne.2 (Ne.symm he), Bool.false_or] at hix
   simp only [List.length_map, g2, g3, g1, Int.toNat_natCast, getD_map, dv_int, e1, g6, RN, qA, qB, qC, qD, qE, qF]
   exact up_same () g1 rfl hix (by simp) (by simp) rfl rfl
 ·rw [List.drop_length] at hix
  simp only [Int.lt_irrefl, List.length_map, RN, qA, qB, qC, qD, qE, qF]
  rw [hix]; rfl
def prevOf (l : List Int) (i : Nat) : Option Int := if i = 0 then none else some (l.getD (i - 1) default)
end Go.Tel
open Nat renaming reduceBEq → qA, reduceAdd → qB, reduceSub → qC, reduceEqDiff → qD, reduceLT → qE, reduceLeDiff → qF
namespace Go.Tel
open Go.Am
set_option maxRecDepth 10000 in
theorem rHoles_c (n : Int) : Pure C F.ref_Holes [.int .i64 n] (.d (.bool (inR n 1 120))) [] := by
 refine pure_of_pwp_d mixed rfl ok_ref_Holes ?_
 simp only [pc_ref_Holes, rs_ref_Holes, RN, qA, qB, qC, qD, qE, qF]
 refine call_d rfl rfl (rin_c _ _ _) ?_
 simp only [RN, qA, qB, qC, qD, qE, qF]
end Go.Tel
open Nat renaming reduceBEq → qA, reduceAdd → qB, reduceSub → qC, reduceEqDiff → qD, reduceLT → qE, reduceLeDiff → qF
namespace Go.Tel
open Go.Am
set_option maxRecDepth 10000 in
theorem rMarked_c (holes : Int) (l : List Int) (hh : 1 ≤ holes ∧ holes ≤ 120) (hl : l.length ≤ 1000) : Pure C F.ref_Marked [.int .i64 holes, .slice false (l.map intDV)] (.d (.bool (incGo holes none l && !(l.length == 0)))) [] := by
 have w1 : IntKind.i64.wrap (holes - 1) = holes - 1 := w64_in (by omega)
 refine pure_of_pwp_d mixed rfl ok_ref_Marked ?_
 simp only [pc_ref_Marked, rs_ref_Marked, RN, qA, qB, qC, qD, qE, qF]
 refine pwp_range l.length (fun i (_ : Unit) => ⟨[(0, .d (.int .i64 holes)), (1, .d (.slice false (l.map intDV))), (5, .d (.int .i64 i))], ⟨[], [], []⟩⟩)
  (fun i _ => incGo holes none l = incGo holes (prevOf l i) (l.drop i)) 0 () (Nat.zero_le _) rfl rfl (fun i _ g1 hix => ?_) (fun _ hix => ?_)
 ·obtain ⟨g2, g3, g6⟩ := rng g1 (by omega)
  have hp : prevOf l (i + 1) = some (l.getD i default) := by rw [prevOf, if_neg (by omega), Nat.add_sub_cancel]
  rw [drop_cons g1, incGo, ← hp] at hix
  simp only [List.length_map, g2, g3, g1, Int.toNat_natCast, getD_map, dv_int, w1, RN, qA, qB, qC, qD, qE, qF]
  refine call_d rfl rfl (rin_c _ _ _) ?_
  cases h1 : inR (l.getD i default) 0 (holes - 1)
  ·rw [h1, Bool.false_and, Bool.false_and] at hix
   simp only [RN, qA, qB, qC, qD, qE, qF]
   rw [hix]; rfl
  rw [h1, Bool.true_and] at hix
  by_cases hi : i = 0
  ·have hz : ¬ (i : Int) > 0 := by omega
   have ha : above (prevOf l i) (l.getD i default) = false := by rw [prevOf, if_pos hi]; rfl
   rw [ha, Bool.not_false, Bool.true_and] at hix
   simp only [hz, g6, RN, qA, qB, qC, qD, qE, qF]
   exact up_same () g1 rfl hix (by simp) (by simp) rfl rfl
  have hz : (i : Int) > 0 := by omega
  have w2 : IntKind.i64.wrap ((i : Int) - 1) = ((i - 1 : Nat) : Int) := by rw [w64_in (by omega)]; omega
  have q1 : (0 : Int) ≤ ((i - 1 : Nat) : Int) := by omega
  have q2 : i - 1 < l.length := by omega
  have ha : above (prevOf l i) (l.getD i default) = decide (l.getD i default ≤ l.getD (i - 1) default) := by rw [prevOf, if_neg hi]; rfl
  rw [ha] at hix
  by_cases hle : l.getD i default ≤ l.getD (i - 1) default
  ·rw [decide_eq_true hle, Bool.not_true, Bool.false_and] at hix
   simp only [hz, g3, g1, w2, q1, q2, hle, Int.toNat_natCast, getD_map, dv_int, List.length_map, RN, qA, qB, qC, qD, qE, qF]
   rw [hix]; rfl
  ·rw [decide_eq_false hle, Bool.not_false, Bool.true_and] at hix
   simp only [hz, g3, g1, w2, q1, q2, hle, Int.toNat_natCast, getD_map, dv_int, List.length_map, g6, RN, qA, qB, qC, qD, qE, qF]
   exact up_same () g1 rfl hix (by simp) (by simp) rfl rfl
 ·rw [List.drop_length, incGo] at hix
  by_cases h0 : l.length = 0
  ·have e1 : ¬ (l.length : Int) > 0 := by omega
   simp only [Int.lt_irrefl, List.length_map, e1, RN, qA, qB, qC, qD, qE, qF]
   simp [hix, h0]
  ·have e1 : (l.length : Int) > 0 := by omega
   simp only [Int.lt_irrefl, List.length_map, e1, RN, qA, qB, qC, qD, qE, qF]
   simp [hix, h0]
structure EvS where
 acc : List Int
 ver : Nat
 h : Int
 k : Nat
end Go.Tel
open Nat renaming reduceBEq → qA, reduceAdd → qB, reduceSub → qC, reduceEqDiff → qD, reduceLT → qE, reduceLeDiff → qF
namespace Go.Am
end Go.Am
namespace Go.Tel
open Go.Am
def left (gone : List Int) (k : Nat) : List Nat := (List.range k).filter fun i => !gone.contains (i : Int)
structure WoS where
 ver : Nat
 c : PV
 ar : List (Option Arr)
end Go.Tel
namespace Go.Tel
open Go.Am
end Go.Tel
open Nat renaming reduceBEq → qA, reduceAdd → qB, reduceSub → qC, reduceEqDiff → qD, reduceLT → qE, reduceLeDiff → qF
namespace Go.Am
end Go.Am
namespace Go.Tel
open Go.Am
end Go.Tel
namespace Go.Tel
open Go.Am
section
variable {p : Piece} {gone : List Int}
end
end Go.Tel
open Nat renaming reduceBEq → qA, reduceAdd → qB, reduceSub → qC, reduceEqDiff → qD, reduceLT → qE, reduceLeDiff → qF
namespace Go.Tel
open Go.Am
end Go.Tel
namespace Go.Tel
open Go.Am
theorem incGo_pw {B : Int} : ∀ {l : List Int} {prev : Option Int}, incGo B prev l = true ↔ (∀ x ∈ l, 0 ≤ x ∧ x ≤ B - 1) ∧ l.Pairwise (· < ·) ∧ ∀ q x, prev = some q → l.head? = some x → q < x
 | [], prev => by simp [incGo]
 | y :: l, prev => by
  have ih := incGo_pw (B := B) (l := l) (prev := some y)
  rw [incGo, Bool.and_eq_true, Bool.and_eq_true, ih]
  simp only [inR, Bool.and_eq_true, decide_eq_true_eq, Bool.not_eq_true', ge_iff_le]
  constructor
  ·rintro ⟨⟨h1, h2⟩, h3, h4, h5⟩
   refine ⟨fun z hz => ?_, List.pairwise_cons.2 ⟨fun z hz => ?_, h4⟩, fun q x hq hx => ?_⟩
   ·rcases List.mem_cons.1 hz with rfl | hz
    ·exact h1
    ·exact h3 z hz
   ·cases l with
    | nil => cases hz
    | cons w l =>
     have h0 := h5 y w rfl rfl
     rcases List.mem_cons.1 hz with rfl | hz
     ·exact h0
     ·have := (List.pairwise_cons.1 h4).1 z hz; omega
   ·cases hx
    subst hq
    simp only [above, decide_eq_false_iff_not] at h2
    omega
  ·rintro ⟨h1, h2, h3⟩
   have hp := List.pairwise_cons.1 h2
   refine ⟨⟨h1 y List.mem_cons_self, ?_⟩, fun z hz => h1 z (List.mem_cons_of_mem _ hz), hp.2, fun q x hq hx => ?_⟩
   ·cases prev with
    | none => rfl
    | some q =>
     have := h3 q y rfl rfl
     simp only [above, decide_eq_false_iff_not]; omega
   ·cases hq
    cases l with
    | nil => cases hx
    | cons w l => cases hx; exact hp.1 x List.mem_cons_self
end Go.Tel
namespace Go.Tel
open Go.Am
theorem step_mem {H : Int} {g : Nat} : ∀ {k : Nat} {s x : Int}, x ∈ stepGo H (g : Int) k s → s ≤ x
 | 0, s, x, h => by cases h
 | k + 1, s, x, h => by
  rw [stepGo] at h
  split at h
  ·rcases List.mem_cons.1 h with rfl | h
   ·exact Int.le_refl _
   ·have := step_mem h; omega
  ·cases h
theorem step_inc {H : Int} {g : Nat} (hg : 0 < g) : ∀ (k : Nat) (s : Int), (stepGo H (g : Int) k s).Pairwise (· < ·)
 | 0, s => by simp [stepGo]
 | k + 1, s => by
  rw [stepGo]
  split
  ·exact List.pairwise_cons.2 ⟨fun x hx => by have := step_mem hx; omega, step_inc hg k _⟩
  ·simp
theorem step_len {H : Int} {g : Nat} : ∀ (n k : Nat) (s : Int), n ≤ k → H ≤ s + (n : Int) * g → (n = 0 ∨ s + ((n : Int) - 1) * g < H) → (stepGo H (g : Int) k s).length = n
 | 0, k, s, _, h, _ => by
  cases k with
  | zero => rfl
  | succ k => rw [stepGo, if_neg (by omega)]; rfl
 | n + 1, k, s, hk, h1, h2 => by
  obtain ⟨k, rfl⟩ : ∃ k', k = k' + 1 := ⟨k - 1, by omega⟩
  have h2' : s + (((n + 1 : Nat) : Int) - 1) * g < H := by
   rcases h2 with h2 | h2
   ·omega
   ·exact h2
  have e : (((n + 1 : Nat) : Int) - 1) = (n : Int) := by omega
  rw [e] at h2'
  have hn : 0 ≤ (n : Int) * g := Int.mul_nonneg (by omega) (by omega)
  have e1 : ((n + 1 : Nat) : Int) * g = (n : Int) * g + g := by rw [Int.natCast_add, Int.add_mul]; simp
  rw [e1] at h1
  rw [stepGo, if_pos (by omega), List.length_cons, step_len n k (s + g) (by omega) (by omega) ?_]
  rcases Nat.eq_zero_or_pos n with hz | hz
  ·exact .inl hz
  ·right
   rw [Int.sub_mul, Int.one_mul]
   omega
theorem filter_len {α : Type} (p : α → Bool) : ∀ l : List α, (l.filter p).length + (l.filter fun x => !p x).length = l.length
 | [] => rfl
 | x :: l => by
  have := filter_len p l
  rw [List.filter_cons, List.filter_cons]
  cases p x <;> simp only [Bool.not_false, Bool.not_true, if_true, if_false, List.length_cons, Bool.false_eq_true] <;> omega
theorem even_facts {H : Nat} {marks : List Int} (h : evenOk (H : Int) marks = true) : ∃ (g : Nat) (new : List Int), 0 < g ∧ g ∣ H ∧ evenS (H : Int) marks = (((H / g : Nat) : Int), new, 0) ∧ (∀ m ∈ marks, g ∣ (m - marks.getD 0 default).natAbs) ∧
  (∀ d : Nat, d ∣ H → (∀ m ∈ marks, d ∣ (m - marks.getD 0 default).natAbs) → d ∣ g) ∧ new.Pairwise (· < ·) ∧ (∀ x ∈ new, (0 ≤ x ∧ x < H) ∧ g ∣ (x - marks.getD 0 default).natAbs ∧ x ∉ marks) ∧ marks.length + new.length = H / g := by
 have hk := h
 simp only [evenOk, inR, Bool.and_eq_true, decide_eq_true_eq, ge_iff_le, Bool.not_eq_true', beq_eq_false_iff_ne] at hk
 obtain ⟨⟨⟨k1, k2⟩, k3⟩, k4⟩ := hk
 obtain ⟨i1, i2, _⟩ := incGo_pw.1 k4
 have hm0 := i1 _ (getD_mem (show 0 < marks.length by omega))
 obtain ⟨d1, d2⟩ := byGo_dvd (m0 := marks.getD 0 default) (l := marks) (g := H)
 have hg : 0 < byGo (marks.getD 0 default) marks H := Nat.pos_of_dvd_of_pos d1 (by omega)
 have hS : evenS (H : Int) marks = (((H / byGo (marks.getD 0 default) marks H : Nat) : Int), (stepGo (H : Int) (byGo (marks.getD 0 default) marks H : Nat) H ((marks.getD 0 default).tmod (byGo (marks.getD 0 default) marks H : Nat))).filter (fun x => !marks.contains x), 0) := by
  rw [evenS, if_pos h]; rfl
 have hd := fun d a b => dvd_byGo (m0 := marks.getD 0 default) (d := d) (l := marks) (g := H) a b
 generalize byGo (marks.getD 0 default) marks H = g at *
 refine ⟨g, _, hg, d1, hS, d2, hd, (step_inc hg _ _).filter _, fun x hx => ?_, ?_⟩
 ·obtain ⟨h1, h2⟩ := List.mem_filter.1 hx
  have h3 := step_mem h1
  obtain ⟨j, _, _, h4⟩ := (mem_step hg).1 h1
  have h5 := Int.tmod_nonneg (g : Int) hm0.1
  refine ⟨⟨by omega, h4⟩, (mem_even hg hm0.1 ⟨by omega, h4⟩).1 h1, fun hm => ?_⟩
  rw [List.contains_iff_mem.2 hm] at h2; cases h2
 ·have hl : (stepGo (H : Int) (g : Int) H ((marks.getD 0 default).tmod g)).length = H / g := by
   obtain ⟨n, rfl⟩ := d1
   have hr0 := Int.tmod_nonneg (g : Int) hm0.1
   have hr1 := Int.tmod_lt_of_pos (marks.getD 0 default) (show (0 : Int) < g by omega)
   rw [Nat.mul_div_cancel_left n hg]
   have e : ((g * n : Nat) : Int) = (n : Int) * g := by rw [Int.natCast_mul, Int.mul_comm]
   refine step_len n _ _ (Nat.le_mul_of_pos_left n hg) (by omega) ?_
   rcases Nat.eq_zero_or_pos n with hz | hz
   ·exact .inl hz
   ·right
    rw [Int.sub_mul, Int.one_mul]
    omega
  have hf : (stepGo (H : Int) (g : Int) H ((marks.getD 0 default).tmod g)).filter (fun x => marks.contains x) = marks := by
   refine inc_ext ((step_inc hg _ _).filter _) i2 fun x => ?_
   rw [List.mem_filter, List.contains_iff_mem]
   refine ⟨fun hx => hx.2, fun hx => ⟨?_, hx⟩⟩
   have := i1 x hx
   exact (mem_even hg hm0.1 ⟨by omega, by omega⟩).2 (d2 x hx)
  have := filter_len (fun x => marks.contains x) (stepGo (H : Int) (g : Int) H ((marks.getD 0 default).tmod g))
  rw [hf, hl] at this
  exact this
end Go.Tel
namespace Go.Tel
open Go.Am
theorem bezout (s H : Nat) : ∃ a b : Int, a * s + b * H = (Nat.gcd s H : Nat) := by
 induction s, H using Nat.gcd.induction with
 | H0 n => exact ⟨0, 1, by simp⟩
 | H1 m n hm ih =>
  obtain ⟨a, b, h⟩ := ih
  refine ⟨b - a * ((n / m : Nat) : Int), a, ?_⟩
  rw [Nat.gcd_rec, ← h]
  have e : (n : Int) = (m : Int) * ((n / m : Nat) : Int) + ((n % m : Nat) : Int) := by
   have := Nat.div_add_mod n m
   rw [← Int.natCast_mul, ← Int.natCast_add, this]
  rw [Int.sub_mul, Int.mul_assoc, Int.mul_comm ((n / m : Nat) : Int) (m : Int)]
  have e2 : a * (n : Int) = a * ((m : Int) * ((n / m : Nat) : Int)) + a * ((n % m : Nat) : Int) := by rw [← Int.mul_add, ← e]
  omega
theorem round_marks {H s : Nat} {m : Int} (hH : 0 < H) (hm : 0 ≤ m ∧ m < H) : rMarks (H : Int) (s : Int) H [m] = stepGo (H : Int) (Nat.gcd s H : Nat) H (m.tmod (Nat.gcd s H : Nat)) := by
 have hg : 0 < Nat.gcd s H := Nat.gcd_pos_of_pos_right s hH
 obtain ⟨a, b, hb⟩ := bezout s H
 have d1 : ((Nat.gcd s H : Nat) : Int) ∣ s := Int.natCast_dvd_natCast.2 (Nat.gcd_dvd_left s H)
 have d2 : ((Nat.gcd s H : Nat) : Int) ∣ H := Int.natCast_dvd_natCast.2 (Nat.gcd_dvd_right s H)
 generalize Nat.gcd s H = g at *
 refine inc_ext ((upTo_inc _).filter _) (step_inc hg _ _) fun x => ?_
 rw [rMarks, List.mem_filter, mem_upTo, metS, List.any_cons, List.any_nil, Bool.or_false, List.any_eq_true, Int.toNat_natCast]
 have hs0 : ∀ k : Nat, 0 ≤ m + (k : Int) * s := fun k => by
  have : 0 ≤ (k : Int) * s := Int.mul_nonneg (by omega) (by omega)
  omega
 constructor
 ·rintro ⟨h1, k, hk, h2⟩
  rw [beq_iff_eq, Int.tmod_eq_emod_of_nonneg (hs0 k)] at h2
  refine (mem_even hg hm.1 h1).2 (Int.natAbs_dvd_natAbs.2 (?_ : (g : Int) ∣ x - m))
  have e := Int.mul_ediv_add_emod (m + (k : Int) * s) H
  rw [h2] at e
  have e3 : x - m = (k : Int) * s - H * ((m + (k : Int) * s) / H) := by omega
  rw [e3]
  exact Int.dvd_sub (Int.dvd_trans d1 (Int.dvd_mul_left _ _)) (Int.dvd_trans d2 (Int.dvd_mul_right _ _))
 ·intro hx
  have h0 := step_mem hx
  obtain ⟨j, _, _, h4⟩ := (mem_step hg).1 hx
  have h5 := Int.tmod_nonneg (g : Int) hm.1
  have hxr : 0 ≤ x ∧ x < (H : Int) := ⟨by omega, h4⟩
  obtain ⟨t, ht⟩ := Int.natAbs_dvd_natAbs.1 (show (g : Int).natAbs ∣ (x - m).natAbs from (mem_even hg hm.1 hxr).1 hx)
  have k0 := Int.emod_nonneg (t * a) (b := (H : Int)) (by omega)
  have k1 := Int.emod_lt_of_pos (t * a) (b := (H : Int)) (by omega)
  have ke := Int.mul_ediv_add_emod (t * a) H
  refine ⟨hxr, ((t * a) % H).toNat, List.mem_range.2 (by omega), ?_⟩
  rw [beq_iff_eq, Int.tmod_eq_emod_of_nonneg (hs0 _), Int.toNat_of_nonneg k0]
  have e1 : (t * a) % H * s = t * a * s - H * (t * a / H * s) := by
   have : (t * a) % H = t * a - H * (t * a / H) := by omega
   rw [this, Int.sub_mul, Int.mul_assoc (H : Int)]
  have e2 : (g : Int) * t = t * a * s + H * (t * b) := by
   rw [← hb, Int.mul_comm, Int.mul_add, Int.mul_assoc t a, Int.mul_comm (H : Int), Int.mul_assoc t b]
  have e3 : m + (t * a) % H * s = x + H * (-(t * b) - t * a / H * s) := by
   rw [Int.mul_sub, Int.mul_neg]
   omega
  rw [e3, Int.add_mul_emod_self_left]
  exact Int.emod_eq_of_lt hxr.1 hxr.2
theorem gaps_step {H f : Int} {g : Nat} (hg : 0 < g) : ∀ (n k : Nat) (s : Int), 0 < n → n ≤ k → s + ((n : Int) - 1) * g < H → H ≤ s + (n : Int) * g → f + H = s + (n : Int) * g → ∀ x ∈ gapsL H f (stepGo H (g : Int) k s), x = g
 | 0, _, _, h, _, _, _, _ => by omega
 | n + 1, k, s, _, hk, h1, h2, h3 => by
  obtain ⟨k, rfl⟩ : ∃ k', k = k' + 1 := ⟨k - 1, by omega⟩
  have e : (((n + 1 : Nat) : Int) - 1) = (n : Int) := by omega
  have hn : 0 ≤ (n : Int) * g := Int.mul_nonneg (by omega) (by omega)
  have e1 : ((n + 1 : Nat) : Int) * g = (n : Int) * g + g := by rw [Int.natCast_add, Int.add_mul]; simp
  rw [e] at h1
  rw [e1] at h2 h3
  rw [stepGo, if_pos (by omega)]
  rcases Nat.eq_zero_or_pos n with hz | hz
  ·subst hz
   have : stepGo H (g : Int) k (s + g) = [] := by
    cases k with
    | zero => rfl
    | succ k => rw [stepGo, if_neg (by omega)]
   rw [this]
   intro x hx
   rw [gapsL, List.mem_singleton] at hx
   omega
  ·have ih := gaps_step (H := H) (f := f) hg n k (s + g) hz (by omega) (by rw [Int.sub_mul, Int.one_mul]; omega) (by omega) (by omega)
   obtain ⟨k, rfl⟩ : ∃ k', k = k' + 1 := ⟨k - 1, by omega⟩
   have hge : (g : Int) ≤ (n : Int) * g := by
    have := Int.mul_le_mul_of_nonneg_right (show (1 : Int) ≤ n by omega) (show (0 : Int) ≤ g by omega)
    omega
   rw [stepGo, if_pos (by omega)] at ih ⊢
   intro x hx
   rw [gapsL, List.mem_cons] at hx
   rcases hx with rfl | hx
   ·omega
   ·exact ih x hx
theorem fold_same {g : Int} (op : Int → Int → Int) (h : op g g = g) : ∀ l : List Int, (∀ x ∈ l, x = g) → l.foldl op g = g
 | [], _ => rfl
 | x :: l, hx => by
  rw [List.foldl_cons, hx x List.mem_cons_self, h]
  exact fold_same op h l fun y hy => hx y (List.mem_cons_of_mem _ hy)
theorem min_same {g : Int} {l : List Int} (hn : l ≠ []) (h : ∀ x ∈ l, x = g) : minL l = g ∧ maxL l = g := by
 cases l with
 | nil => exact absurd rfl hn
 | cons x l =>
  have hx := h x List.mem_cons_self
  subst hx
  have hl := fun y hy => h y (List.mem_cons_of_mem _ hy)
  exact ⟨fold_same min (by omega) l hl, fold_same max (by omega) l hl⟩
end Go.Tel
open Nat renaming reduceBEq → qA, reduceAdd → qB, reduceSub → qC, reduceEqDiff → qD, reduceLT → qE, reduceLeDiff → qF
namespace Go.Tel
open Go.Am
theorem turned_facts {H s : Nat} {m : Int} (hH : 1 ≤ H ∧ H ≤ 120) (hs : s ≤ H) (hm : 0 ≤ m ∧ m < H) : ∃ (T : List Int) (w : Int), marksS (H : Int) (s : Int) (H : Int) [m] = (T, ⟨w, w⟩, 0) ∧ (1 ≤ T.length ∧ T.length ≤ H) ∧ evenS (H : Int) T = ((T.length : Int), [], 0) := by
 have hok : marksOk (H : Int) (s : Int) (H : Int) [m] = true := by
  simp only [marksOk, inR, List.length_singleton, List.all_cons, List.all_nil, Bool.and_true, Bool.and_eq_true, decide_eq_true_eq]
  omega
 have hr := round_marks (H := H) (s := s) (by omega) hm
 have hg : 0 < Nat.gcd s H := Nat.gcd_pos_of_pos_right s (by omega)
 have d1 : Nat.gcd s H ∣ H := Nat.gcd_dvd_right s H
 generalize Nat.gcd s H = g at *
 have hr0 := Int.tmod_nonneg (g : Int) hm.1
 have hr1 := Int.tmod_lt_of_pos m (show (0 : Int) < g by omega)
 obtain ⟨n, hn⟩ := d1
 have hn0 : 0 < n := Nat.pos_of_ne_zero fun e => by rw [e] at hn; omega
 have hnH : n ≤ H := by rw [hn]; exact Nat.le_mul_of_pos_left n hg
 have e : (H : Int) = (n : Int) * g := by rw [hn, Int.natCast_mul, Int.mul_comm]
 have hq : m.tmod g + ((n : Int) - 1) * g < (H : Int) := by rw [Int.sub_mul, Int.one_mul]; omega
 have hl := step_len (H := (H : Int)) (g := g) n H (m.tmod g) hnH (by omega) (.inr hq)
 have hgs := gaps_step (H := (H : Int)) (f := m.tmod g) hg n H (m.tmod g) hn0 hnH hq (by omega) (by omega)
 have hin := step_inc (H := (H : Int)) hg H (m.tmod g)
 have hme := fun x => mem_step (holes := (H : Int)) hg (x := x) (k := H) (s := m.tmod g)
 have hmv := fun x (h : 0 ≤ x ∧ x < (H : Int)) => mem_even (H := H) hg (x := x) hm.1 h
 have hst := fun x (h : x ∈ stepGo (H : Int) (g : Int) H (m.tmod g)) => step_mem h
 have h0 : (stepGo (H : Int) (g : Int) H (m.tmod g)).getD 0 default = m.tmod g := by
  obtain ⟨k, hk⟩ : ∃ k, H = k + 1 := ⟨H - 1, by omega⟩
  rw [show stepGo (H : Int) (g : Int) H (m.tmod g) = stepGo (H : Int) (g : Int) (k + 1) (m.tmod g) by rw [← hk], stepGo, if_pos (by
   have : 0 ≤ ((n : Int) - 1) * g := Int.mul_nonneg (by omega) (by omega)
   omega)]
  rfl
 have hT : marksS (H : Int) (s : Int) (H : Int) [m] = (stepGo (H : Int) (g : Int) H (m.tmod g), ⟨minL (gapsL H (m.tmod g) (stepGo (H : Int) (g : Int) H (m.tmod g))), maxL (gapsL H (m.tmod g) (stepGo (H : Int) (g : Int) H (m.tmod g)))⟩, 0) := by
  rw [marksS, if_pos hok, marks_same hok, Int.toNat_natCast, hr, h0]
 generalize stepGo (H : Int) (g : Int) H (m.tmod g) = S at *
 have hne : S ≠ [] := fun h => by rw [h] at hl; simp at hl; omega
 have hgn : gapsL H (m.tmod g) S ≠ [] := by
  cases S with
  | nil => exact absurd rfl hne
  | cons a l => cases l <;> simp [gapsL]
 obtain ⟨m1, m2⟩ := min_same hgn hgs
 rw [m1, m2] at hT
 have hS : ∀ x ∈ S, 0 ≤ x ∧ x < (H : Int) := fun x hx => by
  have h1 := hst x hx
  obtain ⟨_, _, _, h2⟩ := (hme x).1 hx
  omega
 have hev : evenOk (H : Int) S = true := by
  rw [evenOk, Bool.and_eq_true, Bool.and_eq_true]
  refine ⟨⟨by simp only [inR, Bool.and_eq_true, decide_eq_true_eq]; omega, by rw [Bool.not_eq_true', beq_eq_false_iff_ne]; omega⟩, incGo_pw.2 ⟨fun x hx => by have := hS x hx; omega, hin, fun q x h => by cases h⟩⟩
 obtain ⟨g', new, p1, p2, p3, p4, p5, p6, p7, p8⟩ := even_facts hev
 have hgg : g ∣ g' := by
  refine p5 g ⟨n, hn⟩ fun x hx => ?_
  have a1 := (hmv x (hS x hx)).1 hx
  have hz : S.getD 0 default ∈ S := getD_mem (by omega)
  have a2 := (hmv _ (hS _ hz)).1 hz
  have b1 : (g : Int) ∣ x - m := Int.natAbs_dvd_natAbs.1 a1
  have b2 : (g : Int) ∣ S.getD 0 default - m := Int.natAbs_dvd_natAbs.1 a2
  have b3 := Int.dvd_sub b1 b2
  rw [show x - m - (S.getD 0 default - m) = x - S.getD 0 default by omega] at b3
  exact Int.natAbs_dvd_natAbs.2 b3
 have hle : H / g' ≤ H / g := Nat.div_le_div_left (Nat.le_of_dvd p1 hgg) hg
 have hng : H / g = n := by rw [hn, Nat.mul_div_cancel_left n hg]
 have hnew : new = [] := List.length_eq_zero_iff.1 (by omega)
 refine ⟨S, _, hT, ⟨by omega, by omega⟩, ?_⟩
 rw [p3, hnew]
 have : H / g' = S.length := by omega
 rw [this]
theorem dvd_tmod {g : Nat} {x : Int} (h : g ∣ x.natAbs) : x.tmod (g : Int) = 0 := Int.tmod_eq_zero_of_dvd (Int.natAbs_dvd_natAbs.1 h)
set_option maxRecDepth 10000 in
set_option maxHeartbeats 4000000 in
theorem PlateEvened_c (hkn : KnownC) (holes : Int) (marks : List Int) (k m s : Int) : Pure Go.Tel.C F.law_PlateEvened [.int .i64 holes, .slice false (marks.map intDV), .int .i64 k, .int .i64 m, .int .i64 s] (.d (.bool true)) [] := by
 have hkn : Pure C F.law_known [] (.d (.bool true)) [] := hkn
 have n0 : ((0 : Int) != 0) = false := rfl
 have z0 : (0 : Int) ≤ 0 := by decide
 refine pure_of_pwp_d mixed rfl ok_law_PlateEvened ?_
 by_cases s1 : (marks.length : Int) > 130
 ·simp only [pc_law_PlateEvened, rs_law_PlateEvened, List.length_map, s1, RN, qA, qB, qC, qD, qE, qF]
  refine call_d rfl rfl hkn ?_
  simp only [RN, qA, qB, qC, qD, qE, qF]
 simp only [pc_law_PlateEvened, rs_law_PlateEvened, List.length_map, s1, RN, qA, qB, qC, qD, qE, qF]
 refine call_d rfl rfl (rHoles_c holes) ?_
 cases hh : inR holes 1 120
 ·simp only [RN, qA, qB, qC, qD, qE, qF]
  refine call_d rfl rfl hkn ?_
  simp only [RN, qA, qB, qC, qD, qE, qF]
 have hH : 1 ≤ holes ∧ holes ≤ 120 := by simpa [inR] using hh
 simp only [RN, qA, qB, qC, qD, qE, qF]
 refine call_d rfl rfl (rMarked_c holes marks hH (by omega)) ?_
 cases hmk : (incGo holes none marks && !(marks.length == 0))
 ·simp only [RN, qA, qB, qC, qD, qE, qF]
  refine call_d rfl rfl hkn ?_
  simp only [RN, qA, qB, qC, qD, qE, qF]
 simp only [RN, qA, qB, qC, qD, qE, qF]
 refine call_d rfl rfl (rHoles_c k) ?_
 cases hk : inR k 1 120
 ·simp only [RN, qA, qB, qC, qD, qE, qF]
  refine call_d rfl rfl hkn ?_
  simp only [RN, qA, qB, qC, qD, qE, qF]
 have hK : 1 ≤ k ∧ k ≤ 120 := by simpa [inR] using hk
 by_cases c1 : m < 0
 ·simp only [c1, RN, qA, qB, qC, qD, qE, qF]
  refine call_d rfl rfl hkn ?_
  simp only [RN, qA, qB, qC, qD, qE, qF]
 by_cases c2 : m ≥ holes
 ·simp only [c1, c2, RN, qA, qB, qC, qD, qE, qF]
  refine call_d rfl rfl hkn ?_
  simp only [RN, qA, qB, qC, qD, qE, qF]
 by_cases c3 : s < 0
 ·simp only [c1, c2, c3, RN, qA, qB, qC, qD, qE, qF]
  refine call_d rfl rfl hkn ?_
  simp only [RN, qA, qB, qC, qD, qE, qF]
 by_cases c4 : s > holes
 ·simp only [c1, c2, c3, c4, RN, qA, qB, qC, qD, qE, qF]
  refine call_d rfl rfl hkn ?_
  simp only [RN, qA, qB, qC, qD, qE, qF]
 obtain ⟨H, rfl⟩ := Int.eq_ofNat_of_zero_le (show 0 ≤ holes by omega)
 obtain ⟨K, rfl⟩ := Int.eq_ofNat_of_zero_le (show 0 ≤ k by omega)
 obtain ⟨St, rfl⟩ := Int.eq_ofNat_of_zero_le (show 0 ≤ s by omega)
 have hev : evenOk (H : Int) marks = true := by rw [evenOk, hh, Bool.true_and, Bool.and_comm]; exact hmk
 obtain ⟨g, new, p1, p2, p3, p4, p5, p6, p7, p8⟩ := even_facts hev
 obtain ⟨T, w, t1, ⟨t2, t3⟩, t4⟩ := turned_facts (H := H) (s := St) (m := m) (by omega) (by omega) (by omega)
 rw [Bool.and_eq_true] at hmk
 obtain ⟨i1, i2, _⟩ := incGo_pw.1 hmk.1
 have hml : 0 < marks.length := by
  have := hmk.2
  simp only [Bool.not_eq_true', beq_eq_false_iff_ne] at this; omega
 have hm0 := i1 _ (getD_mem hml)
 have hE := Even_c H marks (by omega)
 rw [p3] at hE
 have hM := Marks_c H St H [m] (by simp)
 rw [t1] at hM
 have hMs : Pure C F.plate_Marks [.int .i64 H, .int .i64 St, .int .i64 H, .slice false [.int .i64 m]] (.d (.tup [.slice false (T.map intDV), .agg [.int .i64 w, .int .i64 w], .int .i64 0])) [] := hM
 have hE2 := Even_c H T (by omega)
 rw [t4] at hE2
 have hgH : g ≤ H := Nat.le_of_dvd (by omega) p2
 have hN1 : 0 < H / g := Nat.div_pos hgH p1
 have hN2 : H / g ≤ H := Nat.div_le_self H g
 have hdd : H / (H / g) = g := Nat.div_div_self p2 (by omega)
 have hNd : H / g ∣ H := Nat.div_dvd_of_dvd p2
 have q1 : (H : Int).tdiv ((H / g : Nat) : Int) = (g : Int) := by
  have : (H : Int).tdiv ((H / g : Nat) : Int) = ((H / (H / g) : Nat) : Int) := rfl
  rw [this, hdd]
 have q2 : ((H : Int).tmod ((H / g : Nat) : Int) != 0) = false := by
  have : (H : Int).tmod ((H / g : Nat) : Int) = ((H % (H / g) : Nat) : Int) := rfl
  rw [this, Nat.mod_eq_zero_of_dvd hNd]; rfl
 have hnl : new.length ≤ 120 := by omega
 have w1 : IntKind.i64.wrap ((marks.length : Int) + (new.length : Int)) = ((H / g : Nat) : Int) := by rw [w64_in (by omega)]; omega
 generalize hNg : H / g = N at *
 have q3 : ((N : Int) != (N : Int)) = false := by rw [bne, beq_self_eq_true]; rfl
 have q4 : ¬ (N : Int) < 1 := by omega
 have q5 : ¬ (N : Int) > (H : Int) := by omega
 have q6 : (N : Int) ≠ 0 := by omega
 have wg : IntKind.i64.wrap (g : Int) = (g : Int) := w64_in (by omega)
 have g0 : (g : Int) ≠ 0 := by omega
 simp only [c1, c2, c3, c4, RN, qA, qB, qC, qD, qE, qF]
 refine call_d rfl rfl hE ?_
 simp only [n0, List.length_map, w1, q1, q2, q3, q4, q5, q6, wg, RN, qA, qB, qC, qD, qE, qF]
 refine pwp_range marks.length (fun i (_ : Unit) => ⟨[(0, .d (.int .i64 H)), (1, .d (.slice false (marks.map intDV))), (2, .d (.int .i64 K)), (3, .d (.int .i64 m)), (4, .d (.int .i64 St)), (11, .d (.int .i64 N)), (12, .d (.slice false (new.map intDV))), (14, .d (.int .i64 g)), (15, .d (.int .i64 i))], ⟨[], [], []⟩⟩)
  (fun _ _ => True) 0 () (Nat.zero_le _) rfl trivial (fun i _ g1 _ => ?_) (fun _ _ => ?_)
 ·obtain ⟨g2, g3, g6⟩ := rng g1 (by omega)
  have hx := i1 _ (getD_mem g1)
  have hd := dvd_tmod (p4 _ (getD_mem g1))
  have wd : IntKind.i64.wrap (marks.getD i default - marks.getD 0 default) = marks.getD i default - marks.getD 0 default := w64_in (by omega)
  simp only [g2, g3, g1, g6, z0, hml, Int.toNat_zero, Int.toNat_natCast, getD_map, dv_int, List.length_map, wd, g0, hd, n0, RN, qA, qB, qC, qD, qE, qF]
  exact up_same () g1 rfl trivial (by simp) (by simp) rfl rfl
 simp only [Int.lt_irrefl, List.length_map, RN, qA, qB, qC, qD, qE, qF]
 refine pwp_range new.length (fun i (_ : Unit) => ⟨[(0, .d (.int .i64 H)), (1, .d (.slice false (marks.map intDV))), (2, .d (.int .i64 K)), (3, .d (.int .i64 m)), (4, .d (.int .i64 St)), (11, .d (.int .i64 N)), (12, .d (.slice false (new.map intDV))), (14, .d (.int .i64 g)), (16, .d (.int .i64 i))], ⟨[], [], []⟩⟩)
  (fun _ _ => True) 0 () (Nat.zero_le _) rfl trivial (fun i _ g1 _ => ?_) (fun _ _ => ?_)
 ·obtain ⟨g2, g3, g6⟩ := rng g1 (by omega)
  obtain ⟨⟨x1, x2⟩, x3, x4⟩ := p7 _ (getD_mem g1)
  have hd := dvd_tmod x3
  have y1 : ¬ new.getD i default < 0 := by omega
  have y2 : ¬ new.getD i default ≥ (H : Int) := by omega
  have wd : IntKind.i64.wrap (new.getD i default - marks.getD 0 default) = new.getD i default - marks.getD 0 default := w64_in (by omega)
  have hli := rListed_c marks (new.getD i default) (by omega)
  have x4' : marks.contains (new.getD i default) = false := by
   rw [← Bool.not_eq_true, List.contains_iff_mem]; exact x4
  rw [x4'] at hli
  by_cases hi : i = 0
  ·have hz : ¬ (i : Int) > 0 := by omega
   simp only [g2, g3, g1, y1, y2, hz, Int.toNat_natCast, getD_map, dv_int, List.length_map, RN, qA, qB, qC, qD, qE, qF]
   refine call_d rfl rfl hli ?_
   simp only [g3, g1, g6, z0, hml, Int.toNat_zero, Int.toNat_natCast, getD_map, dv_int, List.length_map, wd, g0, hd, n0, RN, qA, qB, qC, qD, qE, qF]
   exact up_same () g1 rfl trivial (by simp) (by simp) rfl rfl
  ·have hz : (i : Int) > 0 := by omega
   have w2 : IntKind.i64.wrap ((i : Int) - 1) = ((i - 1 : Nat) : Int) := by rw [w64_in (by omega)]; omega
   have u1 : (0 : Int) ≤ ((i - 1 : Nat) : Int) := by omega
   have u2 : i - 1 < new.length := by omega
   have u3 : ¬ new.getD i default ≤ new.getD (i - 1) default := by
    have := List.pairwise_iff_getElem.1 p6 (i - 1) i u2 g1 (by omega)
    simp only [List.getD_eq_getElem?_getD, List.getElem?_eq_getElem u2, List.getElem?_eq_getElem g1, Option.getD_some]
    omega
   simp only [g2, g3, g1, y1, y2, hz, w2, u1, u2, u3, Int.toNat_natCast, getD_map, dv_int, List.length_map, RN, qA, qB, qC, qD, qE, qF]
   refine call_d rfl rfl hli ?_
   simp only [g3, g1, g6, z0, hml, Int.toNat_zero, Int.toNat_natCast, getD_map, dv_int, List.length_map, wd, g0, hd, n0, RN, qA, qB, qC, qD, qE, qF]
   exact up_same () g1 rfl trivial (by simp) (by simp) rfl rfl
 have v1 : (w != w) = false := by rw [bne, beq_self_eq_true]; rfl
 have v2 : ((T.length : Int) == 0) = false := beq_eq_false_iff_ne.2 (by omega)
 have v3 : ¬ (T.length : Int) > (H : Int) := by omega
 have v4 : ((T.length : Int) != (T.length : Int)) = false := by rw [bne, beq_self_eq_true]; rfl
 have v5 : (((0 : Nat) : Int) != 0) = false := rfl
 have k0 : (K : Int) ≠ 0 := by omega
 simp only [Int.lt_irrefl, List.length_map, ev_mkSl1, DV.strip, dcells_int, List.not_mem_nil, RN, qA, qB, qC, qD, qE, qF]
 refine call_d rfl rfl hMs ?_
 simp only [n0, v1, v2, v3, List.length_map, List.not_mem_nil, RN, qA, qB, qC, qD, qE, qF]
 refine call_d rfl rfl hE2 ?_
 by_cases hkd : (H : Int).tmod (K : Int) = 0
 case neg =>
  have e1 : ((H : Int).tmod (K : Int) != 0) = true := bne_iff_ne.2 hkd
  simp only [n0, v4, v5, k0, e1, List.length_map, List.map_nil, List.length_nil, RN, qA, qB, qC, qD, qE, qF]
  refine call_d rfl rfl hkn ?_
  simp only [RN, qA, qB, qC, qD, qE, qF]
 have e1 : ((H : Int).tmod (K : Int) != 0) = false := by rw [hkd]; rfl
 by_cases hkN : (K : Int) ≥ (N : Int)
 ·simp only [n0, v4, v5, k0, e1, hkN, List.length_map, List.map_nil, List.length_nil, RN, qA, qB, qC, qD, qE, qF]
  refine call_d rfl rfl hkn ?_
  simp only [RN, qA, qB, qC, qD, qE, qF]
 have hKH : K ∣ H := by
  have : (H : Int).tmod (K : Int) = ((H % K : Nat) : Int) := rfl
  rw [this] at hkd
  exact Nat.dvd_of_mod_eq_zero (by omega)
 have hQ : 0 < H / K := Nat.div_pos (Nat.le_of_dvd (by omega) hKH) (by omega)
 have qd : (H : Int).tdiv (K : Int) = ((H / K : Nat) : Int) := rfl
 have hQ2 : H / K ≤ H := Nat.div_le_self H K
 have wq : IntKind.i64.wrap ((H / K : Nat) : Int) = ((H / K : Nat) : Int) := w64_in (by omega)
 have qne : ((H / K : Nat) : Int) ≠ 0 := by omega
 simp only [n0, v4, v5, k0, e1, hkN, List.length_map, List.map_nil, List.length_nil, RN, qA, qB, qC, qD, qE, qF]
 refine pwp_range marks.length (fun i (_ : Unit) => ⟨[(0, .d (.int .i64 H)), (1, .d (.slice false (marks.map intDV))), (2, .d (.int .i64 K)), (3, .d (.int .i64 m)), (23, .d (.int .i64 i))], ⟨[some [.d (.int .i64 w), .d (.int .i64 w)]], [0], []⟩⟩)
  (fun i _ => ∀ j, j < i → (H / K : Nat) ∣ (marks.getD j default - m).natAbs) 0 () (Nat.zero_le _) rfl (fun j hj => by omega) (fun i _ g1 hix => ?_) (fun _ hix => ?_)
 ·obtain ⟨g2, g3, g6⟩ := rng g1 (by omega)
  have hx := i1 _ (getD_mem g1)
  have wd : IntKind.i64.wrap (marks.getD i default - m) = marks.getD i default - m := w64_in (by omega)
  by_cases hz : (marks.getD i default - m).tmod ((H / K : Nat) : Int) = 0
  ·have e2 : ((marks.getD i default - m).tmod ((H / K : Nat) : Int) != 0) = false := by rw [hz]; rfl
   simp only [g2, g3, g1, g6, Int.toNat_natCast, getD_map, dv_int, List.length_map, wd, k0, qd, wq, qne, e2, RN, qA, qB, qC, qD, qE, qF]
   refine up_same () g1 rfl (fun j hj => ?_) (by simp) (by simp) rfl rfl
   rcases Nat.lt_succ_iff_lt_or_eq.1 hj with hj | rfl
   ·exact hix j hj
   ·exact Int.natAbs_dvd_natAbs.2 (Int.dvd_of_tmod_eq_zero hz)
  ·have e2 : ((marks.getD i default - m).tmod ((H / K : Nat) : Int) != 0) = true := bne_iff_ne.2 hz
   simp only [g2, g3, g1, Int.toNat_natCast, getD_map, dv_int, List.length_map, wd, k0, qd, wq, qne, e2, RN, qA, qB, qC, qD, qE, qF]
   refine call_d rfl rfl hkn ?_
   simp only [RN, qA, qB, qC, qD, qE, qF]
 ·exfalso
  have hd := p5 (H / K) (Nat.div_dvd_of_dvd hKH) fun x hx => by
   obtain ⟨i, hi, rfl⟩ := List.getElem_of_mem hx
   have a1 := hix i hi
   have a2 := hix 0 hml
   rw [show marks.getD i default = marks[i] by simp [List.getD_eq_getElem?_getD, hi]] at a1
   have b1 : ((H / K : Nat) : Int) ∣ marks[i] - m := Int.natAbs_dvd_natAbs.1 a1
   have b2 : ((H / K : Nat) : Int) ∣ marks.getD 0 default - m := Int.natAbs_dvd_natAbs.1 a2
   have b3 := Int.dvd_sub b1 b2
   rw [show marks[i] - m - (marks.getD 0 default - m) = marks[i] - marks.getD 0 default by omega] at b3
   exact Int.natAbs_dvd_natAbs.2 b3
  have h1 := Nat.le_of_dvd p1 hd
  have h2 : H / g ≤ H / (H / K) := Nat.div_le_div_left h1 hQ
  rw [Nat.div_div_self hKH (by omega), hNg] at h2
  omega
end Go.Tel
