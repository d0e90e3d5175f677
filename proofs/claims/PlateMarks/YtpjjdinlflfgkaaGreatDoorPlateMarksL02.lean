/-
  Part 2 of the proof of a law of plates, the law itself: an abstract machine over the model, contracts of functions, plain laws.
  Conditions: none.
-/
import Derived.Test.YtpjjdinlflfgkaaGreatDoorPlateMarksL01
set_option linter.all false
open Nat renaming reduceBEq → qA, reduceAdd → qB, reduceSub → qC, reduceEqDiff → qD, reduceLT → qE, reduceLeDiff → qF
namespace Go.Tel
open Go.Am
structure Fr where
 l : Int
 r : Int
 lo : Int
 hi : Int
theorem minmax_M {a b : Int} : (if b > a then b else a) = max a b := by omega
end Go.Tel
namespace Go.Tel
open Go.Am
theorem inc_ext : ∀ {a b : List Int}, a.Pairwise (· < ·) → b.Pairwise (· < ·) → (∀ x, x ∈ a ↔ x ∈ b) → a = b
 | [], [], _, _, _ => rfl
 | [], y :: b, _, _, h => absurd ((h y).2 List.mem_cons_self) (by simp)
 | x :: a, [], _, _, h => absurd ((h x).1 List.mem_cons_self) (by simp)
 | x :: a, y :: b, ha, hb, h => by
  rw [List.pairwise_cons] at ha hb
  have hxy : x = y := by
   rcases List.mem_cons.1 ((h x).1 List.mem_cons_self) with h1 | h1
   ·exact h1
   ·rcases List.mem_cons.1 ((h y).2 List.mem_cons_self) with h2 | h2
    ·exact h2.symm
    ·have := hb.1 x h1; have := ha.1 y h2; omega
  subst hxy
  congr 1
  refine inc_ext ha.2 hb.2 fun z => ⟨fun hz => ?_, fun hz => ?_⟩
  ·rcases List.mem_cons.1 ((h z).1 (List.mem_cons_of_mem _ hz)) with h1 | h1
   ·subst h1; have := ha.1 z hz; omega
   ·exact h1
  ·rcases List.mem_cons.1 ((h z).2 (List.mem_cons_of_mem _ hz)) with h1 | h1
   ·subst h1; have := hb.1 z hz; omega
   ·exact h1
def metS (holes steps : Int) (c : Nat) (starts : List Int) (h : Int) : Bool := starts.any fun s => (List.range c).any fun (k : Nat) => (s + (k : Int) * steps).tmod holes == h
def rMarks (holes steps : Int) (c : Nat) (starts : List Int) : List Int := (upTo holes.toNat).filter (metS holes steps c starts)
def rGaps (holes : Int) (l : List Int) : Sp := ⟨(gapsL holes (l.getD 0 default) l).foldl min holes, (gapsL holes (l.getD 0 default) l).foldl max 0⟩
theorem raw_iff {holes steps : Int} {c : Nat} {x : Int} : ∀ {starts : List Int}, x ∈ rawMarks holes steps c starts ↔ metS holes steps c starts x = true
 | [] => by simp [rawMarks, metS]
 | s :: l => by
  have ih := raw_iff (holes := holes) (steps := steps) (c := c) (x := x) (starts := l)
  rw [rawMarks, List.mem_append, ih, metS, metS, List.any_cons, Bool.or_eq_true]
  refine or_congr ?_ Iff.rfl
  simp only [rawRow, List.mem_map, List.any_eq_true, beq_iff_eq]
theorem cmpct_all : ∀ {l : List Int} {p x : Int}, x ∈ l → x = p ∨ x ∈ cmpct p l
 | [], _, _, h => by cases h
 | y :: l, p, x, h => by
  rw [cmpct]
  rcases List.mem_cons.1 h with rfl | h
  ·by_cases e : x = p
   ·exact .inl e
   ·rw [if_neg e]; exact .inr List.mem_cons_self
  ·split
   ·exact cmpct_all h
   ·rcases cmpct_all (p := y) h with rfl | h
    ·exact .inr List.mem_cons_self
    ·exact .inr (List.mem_cons_of_mem _ h)
theorem compact_iff {l : List Int} {x : Int} : x ∈ compactL l ↔ x ∈ l := by
 refine ⟨compactL_mem, fun h => ?_⟩
 cases l with
 | nil => cases h
 | cons y l =>
  rw [compactL]
  rcases List.mem_cons.1 h with rfl | h
  ·exact List.mem_cons_self
  ·rcases cmpct_all (p := y) h with rfl | h
   ·exact List.mem_cons_self
   ·exact List.mem_cons_of_mem _ h
theorem cmpct_inc : ∀ {l : List Int} {p : Int}, (p :: l).Pairwise (· ≤ ·) → (p :: cmpct p l).Pairwise (· < ·)
 | [], p, _ => by simp [cmpct]
 | y :: l, p, h => by
  rw [List.pairwise_cons] at h
  rw [cmpct]
  by_cases e : y = p
  ·rw [if_pos e]
   subst e
   exact cmpct_inc h.2
  ·rw [if_neg e]
   have ih := cmpct_inc h.2
   have hpy : p < y := by have := h.1 y List.mem_cons_self; omega
   refine List.pairwise_cons.2 ⟨fun z hz => ?_, ih⟩
   rcases List.mem_cons.1 hz with rfl | hz
   ·exact hpy
   ·have := (List.pairwise_cons.1 ih).1 z hz; omega
theorem compact_inc {l : List Int} (h : l.Pairwise (· ≤ ·)) : (compactL l).Pairwise (· < ·) := by
 cases l with
 | nil => simp [compactL]
 | cons y l => exact cmpct_inc h
theorem sort_inc (l : List Int) : (l.mergeSort fun x y => decide (x ≤ y)).Pairwise (· ≤ ·) := by
 have := List.pairwise_mergeSort (le := fun x y : Int => decide (x ≤ y)) (fun a b c h1 h2 => by simp only [decide_eq_true_eq] at *; omega) (fun a b => by simp only [Bool.or_eq_true, decide_eq_true_eq]; omega) l
 exact this.imp fun h => by simpa using h
theorem upTo_inc (n : Nat) : (upTo n).Pairwise (· < ·) := by
 rw [upTo, List.pairwise_map]
 exact List.pairwise_lt_range.imp fun h => by simp only [Int.ofNat_eq_natCast]; omega
theorem mem_upTo {n : Nat} {x : Int} : x ∈ upTo n ↔ 0 ≤ x ∧ x < n := by
 rw [upTo, List.mem_map]
 refine ⟨?_, fun h => ⟨x.toNat, List.mem_range.2 (by omega), by simp only [Int.ofNat_eq_natCast]; omega⟩⟩
 rintro ⟨i, hi, rfl⟩
 have := List.mem_range.1 hi
 simp only [Int.ofNat_eq_natCast]; omega
theorem marks_same {holes steps cuts : Int} {starts : List Int} (h : marksOk holes steps cuts starts = true) : outMarks holes steps cuts starts = rMarks holes steps cuts.toNat starts := by
 have hk := h
 simp only [marksOk, inR, Bool.and_eq_true, decide_eq_true_eq, List.all_eq_true, ge_iff_le] at hk
 have hr := rawMarks_mem (holes := holes) (steps := steps) (c := cuts.toNat) hk.1.1.1.1.1 hk.1.1.1.2.1 (starts := starts) (fun s hs => (hk.2 s hs).1)
 refine inc_ext (compact_inc (sort_inc _)) ((upTo_inc _).filter _) fun x => ?_
 rw [outMarks, compact_iff, List.mem_mergeSort, raw_iff, rMarks, List.mem_filter, mem_upTo]
 refine ⟨fun hx => ⟨?_, hx⟩, fun hx => hx.2⟩
 have := hr x (raw_iff.2 hx)
 omega
theorem gapsL_in {holes first : Int} : ∀ {l : List Int}, l.Pairwise (· < ·) → (∀ x ∈ l, first ≤ x ∧ 0 ≤ x ∧ x < holes) → 0 ≤ first → ∀ g ∈ gapsL holes first l, 0 < g ∧ g ≤ holes
 | [], _, _, _, g, hg => by simp [gapsL] at hg
 | [n], _, h, _, g, hg => by
  simp only [gapsL, List.mem_singleton] at hg
  have := h n List.mem_cons_self
  omega
 | n :: m :: l, hp, h, h0, g, hg => by
  rw [gapsL] at hg
  rw [List.pairwise_cons] at hp
  rcases List.mem_cons.1 hg with rfl | hg
  ·have := hp.1 m List.mem_cons_self
   have := h n List.mem_cons_self
   have := h m (List.mem_cons_of_mem _ List.mem_cons_self)
   omega
  ·exact gapsL_in hp.2 (fun x hx => h x (List.mem_cons_of_mem _ hx)) h0 g hg
theorem gaps_same {holes : Int} {l : List Int} (hn : l ≠ []) (hp : l.Pairwise (· < ·)) (h : ∀ x ∈ l, 0 ≤ x ∧ x < holes) :
  (⟨minL (gapsL holes (l.getD 0 default) l), maxL (gapsL holes (l.getD 0 default) l)⟩ : Sp) = rGaps holes l := by
 cases l with
 | nil => exact absurd rfl hn
 | cons a l =>
  have hf : ∀ x ∈ a :: l, a ≤ x ∧ 0 ≤ x ∧ x < holes := fun x hx => by
   have h1 := h x hx
   rcases List.mem_cons.1 hx with rfl | hx
   ·omega
   ·have := (List.pairwise_cons.1 hp).1 x hx; omega
  have hg := gapsL_in hp hf (hf a List.mem_cons_self).2.1
  rw [rGaps]
  simp only [List.getD_cons_zero]
  cases hG : gapsL holes a (a :: l) with
  | nil =>
   exfalso
   cases l <;> simp [gapsL] at hG
  | cons g G =>
   have := hg g (by rw [hG]; exact List.mem_cons_self)
   simp only [minL, maxL, List.drop_succ_cons, List.drop_zero, List.getD_cons_zero, List.foldl_cons]
   congr 1
   ·congr 1; omega
   ·congr 1; omega
theorem rMarks_ne {holes steps cuts : Int} {starts : List Int} (h : marksOk holes steps cuts starts = true) : rMarks holes steps cuts.toNat starts ≠ [] := by
 simp only [marksOk, inR, Bool.and_eq_true, decide_eq_true_eq, List.all_eq_true, ge_iff_le] at h
 obtain ⟨⟨⟨⟨k1, k2⟩, k3⟩, k4⟩, k5⟩ := h
 cases hs : starts with
 | nil => rw [hs] at k4; simp at k4
 | cons s l =>
  have h0 := (k5 s (by rw [hs]; exact List.mem_cons_self))
  have hx : s ∈ rMarks holes steps cuts.toNat (s :: l) := by
   refine List.mem_filter.2 ⟨mem_upTo.2 (by omega), ?_⟩
   rw [metS, List.any_cons, Bool.or_eq_true]
   refine .inl (List.any_eq_true.2 ⟨0, List.mem_range.2 (by omega), ?_⟩)
   rw [beq_iff_eq, show s + ((0 : Nat) : Int) * steps = s by simp]
   exact Int.tmod_eq_of_lt (by omega) (by omega)
  intro hc
  rw [hc] at hx
  cases hx
theorem marks_law {holes steps cuts : Int} {starts : List Int} (h : marksOk holes steps cuts starts = true) :
  marksS holes steps cuts starts = (rMarks holes steps cuts.toNat starts, rGaps holes (rMarks holes steps cuts.toNat starts), 0) := by
 have hk := h
 simp only [marksOk, inR, Bool.and_eq_true, decide_eq_true_eq, List.all_eq_true, ge_iff_le] at hk
 obtain ⟨⟨⟨⟨k1, k2⟩, k3⟩, k4⟩, k5⟩ := hk
 rw [marksS, if_pos h, marks_same h]
 have hm : ∀ x ∈ rMarks holes steps cuts.toNat starts, 0 ≤ x ∧ x < holes := fun x hx => by
  have := mem_upTo.1 (List.mem_filter.1 hx).1
  omega
 have hp : (rMarks holes steps cuts.toNat starts).Pairwise (· < ·) := (upTo_inc _).filter _
 have hn := rMarks_ne h
 rw [gaps_same hn hp hm]
end Go.Tel
open Nat renaming reduceBEq → qA, reduceAdd → qB, reduceSub → qC, reduceEqDiff → qD, reduceLT → qE, reduceLeDiff → qF
namespace Go.Tel
open Go.Am
set_option maxRecDepth 10000 in
theorem rHoles_c (n : Int) : Pure C F.ref_Holes [.int .i64 n] (.d (.bool (inR n 1 120))) [] := by
 refine pure_of_pwp_d mixed rfl ok_ref_Holes ?_
 simp only [pc_ref_Holes, rs_ref_Holes, RN, qA, qB, qC, qD, qE, qF]
 refine call_d rfl rfl (rin_c _ _ _) ?_
 simp only [RN, qA, qB, qC, qD, qE, qF]
set_option maxRecDepth 10000 in
theorem rStarts_c (holes : Int) (l : List Int) (hh : 1 ≤ holes ∧ holes ≤ 120) (hl : l.length ≤ 1000) : Pure C F.ref_Starts [.int .i64 holes, .slice false (l.map intDV)] (.d (.bool (l.all (fun n => inR n 0 (holes - 1)) && inR l.length 1 4))) [] := by
 have w1 : IntKind.i64.wrap (holes - 1) = holes - 1 := w64_in (by omega)
 refine pure_of_pwp_d mixed rfl ok_ref_Starts ?_
 simp only [pc_ref_Starts, rs_ref_Starts, RN, qA, qB, qC, qD, qE, qF]
 refine pwp_range l.length (fun i (_ : Unit) => ⟨[(0, .d (.int .i64 holes)), (1, .d (.slice false (l.map intDV))), (5, .d (.int .i64 i))], ⟨[], [], []⟩⟩)
  (fun i _ => l.all (fun n => inR n 0 (holes - 1)) = (l.drop i).all (fun n => inR n 0 (holes - 1))) 0 () (Nat.zero_le _) rfl rfl (fun i _ g1 hix => ?_) (fun _ hix => ?_)
 ·obtain ⟨g2, g3, g6⟩ := rng g1 (by omega)
  rw [drop_cons g1, List.all_cons] at hix
  simp only [List.length_map, g2, g3, g1, Int.toNat_natCast, getD_map, dv_int, w1, RN, qA, qB, qC, qD, qE, qF]
  refine call_d rfl rfl (rin_c _ _ _) ?_
  cases h1 : inR (l.getD i default) 0 (holes - 1)
  ·rw [h1, Bool.false_and] at hix
   simp only [RN, qA, qB, qC, qD, qE, qF]
   rw [hix]; rfl
  ·rw [h1, Bool.true_and] at hix
   simp only [g6, RN, qA, qB, qC, qD, qE, qF]
   exact up_same () g1 rfl hix (by simp) (by simp) rfl rfl
 ·rw [List.drop_length, List.all_nil] at hix
  simp only [Int.lt_irrefl, List.length_map, RN, qA, qB, qC, qD, qE, qF]
  refine call_d rfl rfl (rin_c _ _ _) ?_
  rw [hix, Bool.true_and]
set_option maxRecDepth 10000 in
set_option maxHeartbeats 2000000 in
theorem rMarks_c (holes steps cuts : Int) (starts : List Int) (hok : marksOk holes steps cuts starts = true) :
  Pure C F.ref_Marks [.int .i64 holes, .int .i64 steps, .int .i64 cuts, .slice false (starts.map intDV)] (.d (.slice false ((rMarks holes steps cuts.toNat starts).map intDV))) [] := by
 simp only [marksOk, inR, Bool.and_eq_true, decide_eq_true_eq, List.all_eq_true, ge_iff_le] at hok
 obtain ⟨⟨⟨⟨hh, hst⟩, hcu⟩, hsl⟩, hss⟩ := hok
 obtain ⟨c, rfl⟩ := Int.eq_ofNat_of_zero_le (show 0 ≤ cuts by omega)
 obtain ⟨H, rfl⟩ := Int.eq_ofNat_of_zero_le (show 0 ≤ holes by omega)
 have v3 : (H : Int) ≠ 0 := by omega
 refine pure_of_pwp_f mixed rfl ok_ref_Marks ?_
 simp only [pc_ref_Marks, rs_ref_Marks, RN, qA, qB, qC, qD, qE, qF]
 refine pwp_range H (fun i (q : List Int × Nat) => ⟨[(0, .d (.int .i64 H)), (1, .d (.int .i64 steps)), (2, .d (.int .i64 c)), (3, .d (.slice false (starts.map intDV))), (9, .tsl 1 q.2 0), (10, .d (.int .i64 i))],
   ⟨[], [], [some ⟨1, [], 0, 0⟩, some ⟨1, q.1.map intDV, q.2, 0⟩]⟩⟩)
  (fun i q => rMarks H steps c starts = q.1 ++ ((upTo H).drop i).filter (metS H steps c starts) ∧ q.1.length ≤ i) 0 ([], 0) (Nat.zero_le _) rfl ⟨by rw [rMarks, Int.toNat_natCast]; rfl, Nat.le_refl _⟩ (fun i q g1 hix => ?_) (fun q hix => ?_)
 ·obtain ⟨acc, ver⟩ := q
  obtain ⟨r1, r2⟩ := hix
  simp only at r1 r2
  obtain ⟨g2, g3, g6⟩ := rng g1 (by omega)
  rw [drop_cons (by rw [upTo_len]; exact g1), upTo_getD g1, List.filter_cons] at r1
  simp only [g2, RN, qA, qB, qC, qD, qE, qF]
  refine pwp_range starts.length (fun k (b : Bool) => ⟨[(0, .d (.int .i64 H)), (1, .d (.int .i64 steps)), (2, .d (.int .i64 c)), (3, .d (.slice false (starts.map intDV))), (9, .tsl 1 ver 0), (10, .d (.int .i64 i)), (11, .d (.bool b)), (12, .d (.int .i64 k))],
    ⟨[], [], [some ⟨1, [], 0, 0⟩, some ⟨1, acc.map intDV, ver, 0⟩]⟩⟩)
   (fun k b => metS H steps c starts i = (b || metS H steps c (starts.drop k) i)) 0 false (Nat.zero_le _) rfl (by rw [Bool.false_or]; rfl) (fun k b e1 hkx => ?_) (fun b hkx => ?_)
  ·obtain ⟨e2, e3, e6⟩ := rng e1 (by omega)
   rw [drop_cons e1, metS, metS, List.any_cons, ← metS, ← metS] at hkx
   have hs := hss _ (getD_mem e1)
   simp only [e2, List.length_map, RN, qA, qB, qC, qD, qE, qF]
   refine pwp_range c (fun j (b' : Bool) => ⟨[(0, .d (.int .i64 H)), (1, .d (.int .i64 steps)), (2, .d (.int .i64 c)), (3, .d (.slice false (starts.map intDV))), (9, .tsl 1 ver 0), (10, .d (.int .i64 i)), (11, .d (.bool b')), (12, .d (.int .i64 k)), (13, .d (.int .i64 j))],
     ⟨[], [], [some ⟨1, [], 0, 0⟩, some ⟨1, acc.map intDV, ver, 0⟩]⟩⟩)
    (fun j b' => b' = (b || (List.range j).any fun (n : Nat) => (starts.getD k default + (n : Int) * steps).tmod H == (i : Int))) 0 b (Nat.zero_le _) rfl (by simp) (fun j b' f1 hjx => ?_) (fun b' hjx => ?_)
   ·obtain ⟨f2, f3, f6⟩ := rng f1 (by omega)
    have hjs : 0 ≤ (j : Int) * steps ∧ (j : Int) * steps ≤ 120 * 120 := ⟨Int.mul_nonneg f3 hst.1, Int.mul_le_mul (by omega) (by omega) hst.1 (by omega)⟩
    have v1 : IntKind.i64.wrap ((j : Int) * steps) = (j : Int) * steps := w64_in (by omega)
    have v2 : IntKind.i64.wrap (starts.getD k default + (j : Int) * steps) = starts.getD k default + (j : Int) * steps := w64_in (by omega)
    cases b'
    ·simp only [f2, v1, v2, v3, e2, e3, e1, getD_map, dv_int, Int.toNat_natCast, List.length_map, f6, RN, qA, qB, qC, qD, qE, qF]
     refine up_same ((starts.getD k default + (j : Int) * steps).tmod H == (i : Int)) f1 rfl ?_ (by simp) (by simp) rfl rfl
     rw [List.range_succ, List.any_append, ← Bool.or_assoc, ← hjx]
     simp
    ·simp only [f2, f6, RN, qA, qB, qC, qD, qE, qF]
     refine up_same true f1 rfl ?_ (by simp) (by simp) rfl rfl
     rw [List.range_succ, List.any_append, ← Bool.or_assoc, ← hjx]
     simp
   ·simp only [Int.lt_irrefl, e6, RN, qA, qB, qC, qD, qE, qF]
    refine up_same b' e1 rfl ?_ (by simp) (by simp) rfl rfl
    rw [hkx, hjx, Bool.or_assoc]
  ·have e0 : metS H steps c [] i = false := rfl
   rw [List.drop_length, e0, Bool.or_false] at hkx
   simp only [Int.lt_irrefl, List.length_map, RN, qA, qB, qC, qD, qE, qF]
   cases b
   ·rw [hkx] at r1
    simp only [g6, RN, qA, qB, qC, qD, qE, qF]
    exact up_same (acc, ver) g1 rfl ⟨r1, by simp only; omega⟩ (by simp) (by simp) rfl rfl
   ·rw [hkx] at r1
    simp only [ev_mkSl1, fits_int, forall_eq, DV.strip, dcells_int, List.length_map, RN, qA, qB, qC, qD, qE, qF]
    refine ⟨by simp, by omega, ?_⟩
    simp only [g6, RN, qA, qB, qC, qD, qE, qF]
    refine up_same (acc ++ [(i : Int)], ver + 1) g1 ?_ ⟨?_, by simp only [List.length_append, List.length_cons, List.length_nil]; omega⟩ (by simp) (by simp) rfl rfl
    ·simp only [List.map_append, List.map_cons, List.map_nil, dv_int]; rfl
    ·rw [r1, List.append_assoc]; rfl
 ·obtain ⟨acc, ver⟩ := q
  obtain ⟨r1, r2⟩ := hix
  simp only at r1 r2
  rw [List.drop_of_length_le (by rw [upTo_len]; exact Nat.le_refl _), List.filter_nil, List.append_nil] at r1
  simp only [Int.lt_irrefl, RN, qA, qB, qC, qD, qE, qF]
  rw [Int.toNat_natCast, r1]
  simp [datum, row_m]
set_option maxRecDepth 10000 in
set_option maxHeartbeats 2000000 in
theorem rGaps_c (holes : Int) (l : List Int) (hh : 1 ≤ holes ∧ holes ≤ 120) (hl : 1 ≤ l.length ∧ l.length ≤ 1000) (hb : ∀ x ∈ l, 0 ≤ x ∧ x ≤ 119) :
  Pure C F.ref_Gaps [.int .i64 holes, .slice false (l.map intDV)] (.d (rGaps holes l).dv) [] := by
 have l0 : 0 < l.length := by omega
 have z0 : (0 : Int) ≤ 0 := by decide
 have hf : 0 ≤ l.getD 0 default ∧ l.getD 0 default ≤ 119 := hb _ (getD_mem l0)
 have wf : IntKind.i64.wrap (l.getD 0 default + holes) = l.getD 0 default + holes := w64_in (by omega)
 refine pure_of_pwp_d mixed rfl ok_ref_Gaps ?_
 simp only [pc_ref_Gaps, rs_ref_Gaps, RN, qA, qB, qC, qD, qE, qF]
 refine pwp_range l.length (fun i (q : Sp) => ⟨[(0, .d (.int .i64 holes)), (1, .d (.slice false (l.map intDV))), (4, .ptr 0 0), (5, .ptr 1 0), (6, .d (.int .i64 i))], ⟨[some [.d (.int .i64 0), .d (.int .i64 0)], some [.d (.int .i64 q.low), .d (.int .i64 q.high)]], [], []⟩⟩)
  (fun i q => rGaps holes l = ⟨(gapsL holes (l.getD 0 default) (l.drop i)).foldl min q.low, (gapsL holes (l.getD 0 default) (l.drop i)).foldl max q.high⟩) 0 ⟨holes, 0⟩ (Nat.zero_le _) rfl rfl (fun i q g1 hix => ?_) (fun q hix => ?_)
 ·obtain ⟨g2, g3, g6⟩ := rng g1 (by omega)
  have hxb := hb _ (getD_mem g1)
  rw [drop_cons g1] at hix
  simp only [g2, g3, g1, getD_map, Int.toNat_natCast, List.length_map, dv_int, z0, Int.toNat_zero, l0, wf, g6, RN, qA, qB, qC, qD, qE, qF]
  by_cases hlt : i + 1 < l.length
  ·have c1 : ((i + 1 : Nat) : Int) < (l.length : Int) := by omega
   have c0 : (0 : Int) ≤ ((i + 1 : Nat) : Int) := by omega
   have hyb := hb _ (getD_mem hlt)
   have wd : IntKind.i64.wrap (l.getD (i + 1) default - l.getD i default) = l.getD (i + 1) default - l.getD i default := w64_in (by omega)
   rw [drop_cons hlt, gapsL, ← drop_cons hlt, List.foldl_cons, List.foldl_cons] at hix
   simp only [c1, c0, g3, g1, hlt, getD_map, Int.toNat_natCast, List.length_map, dv_int, g6, wd, minmax_m, minmax_M, RN, qA, qB, qC, qD, qE, qF]
   exact up_same ⟨min q.low (l.getD (i + 1) default - l.getD i default), max q.high (l.getD (i + 1) default - l.getD i default)⟩ g1 rfl hix (by simp) (by simp) rfl rfl
  ·have c1 : ¬ ((i + 1 : Nat) : Int) < (l.length : Int) := by omega
   have wd : IntKind.i64.wrap (l.getD 0 default + holes - l.getD i default) = l.getD 0 default + holes - l.getD i default := w64_in (by omega)
   rw [List.drop_of_length_le (by omega), gapsL, List.foldl_cons, List.foldl_cons] at hix
   simp only [c1, g3, g1, getD_map, Int.toNat_natCast, List.length_map, dv_int, g6, wd, minmax_m, minmax_M, RN, qA, qB, qC, qD, qE, qF]
   refine up_same ⟨min q.low (l.getD 0 default + holes - l.getD i default), max q.high (l.getD 0 default + holes - l.getD i default)⟩ g1 rfl ?_ (by simp) (by simp) rfl rfl
   rw [List.drop_of_length_le (by omega), gapsL]
   exact hix
 ·rw [List.drop_length, gapsL, List.foldl_nil, List.foldl_nil] at hix
  simp only [Int.lt_irrefl, List.length_map, RN, qA, qB, qC, qD, qE, qF]
  rw [hix, Sp.dv]
set_option maxRecDepth 10000 in
set_option maxHeartbeats 4000000 in
theorem PlateMarks_c (hkn : KnownC) (holes steps cuts : Int) (starts : List Int) : Pure Go.Tel.C F.law_PlateMarks [.int .i64 holes, .int .i64 steps, .int .i64 cuts, .slice false (starts.map intDV)] (.d (.bool true)) [] := by
 have hkn : Pure C F.law_known [] (.d (.bool true)) [] := hkn
 have y0 : (((0 : Nat) : Int) == 0) = true := rfl
 have y1 : ((0 : Int) == 0) = true := rfl
 have tf : (true != false) = true := rfl
 have y2 : ((2 : Int) == 2) = true := rfl
 refine pure_of_pwp_d mixed rfl ok_law_PlateMarks ?_
 simp only [pc_law_PlateMarks, rs_law_PlateMarks, List.length_map, RN, qA, qB, qC, qD, qE, qF]
 by_cases hs : (starts.length : Int) > 6
 ·simp only [hs, RN, qA, qB, qC, qD, qE, qF]
  refine call_d rfl rfl hkn ?_
  simp only [RN, qA, qB, qC, qD, qE, qF]
 simp only [hs, RN, qA, qB, qC, qD, qE, qF]
 have hM := Marks_c holes steps cuts starts (by omega)
 cases hk : marksOk holes steps cuts starts
 ·have hB : marksS holes steps cuts starts = ([], ⟨0, 0⟩, 2) := by rw [marksS, if_neg (by rw [hk]; decide)]
  rw [hB] at hM
  refine call_d rfl rfl hM ?_
  simp only [Sp.dv, RN, qA, qB, qC, qD, qE, qF]
  refine call_d rfl rfl (rHoles_c holes) ?_
  cases h1 : inR holes 1 120
  ·simp only [y2, y0, RN, qA, qB, qC, qD, qE, qF]
   rw [ev_binA (t := true) rfl]
   simp only [tf, RN, qA, qB, qC, qD, qE, qF]
   refine call_d rfl rfl hkn ?_
   simp only [RN, qA, qB, qC, qD, qE, qF]
  have hh : 1 ≤ holes ∧ holes ≤ 120 := by simpa [inR] using h1
  by_cases h2 : steps < 0
  ·simp only [h2, y2, y0, RN, qA, qB, qC, qD, qE, qF]
   rw [ev_binA (t := true) rfl]
   simp only [tf, RN, qA, qB, qC, qD, qE, qF]
   refine call_d rfl rfl hkn ?_
   simp only [RN, qA, qB, qC, qD, qE, qF]
  by_cases h3 : steps > holes
  ·simp only [h2, h3, y2, y0, RN, qA, qB, qC, qD, qE, qF]
   rw [ev_binA (t := true) rfl]
   simp only [tf, RN, qA, qB, qC, qD, qE, qF]
   refine call_d rfl rfl hkn ?_
   simp only [RN, qA, qB, qC, qD, qE, qF]
  simp only [h2, h3, RN, qA, qB, qC, qD, qE, qF]
  refine call_d rfl rfl (rHoles_c cuts) ?_
  cases h4 : inR cuts 1 120
  ·simp only [y2, y0, RN, qA, qB, qC, qD, qE, qF]
   rw [ev_binA (t := true) rfl]
   simp only [tf, RN, qA, qB, qC, qD, qE, qF]
   refine call_d rfl rfl hkn ?_
   simp only [RN, qA, qB, qC, qD, qE, qF]
  simp only [RN, qA, qB, qC, qD, qE, qF]
  refine call_d rfl rfl (rStarts_c holes starts hh (by omega)) ?_
  have h5 : (starts.all (fun n => inR n 0 (holes - 1)) && inR starts.length 1 4) = false := by
   have h23 : inR steps 0 holes = true := by simp only [inR, Bool.and_eq_true, decide_eq_true_eq]; omega
   rw [marksOk, h1, h23, h4] at hk
   rw [Bool.and_comm]
   simpa using hk
  rw [h5]
  simp only [y2, y0, RN, qA, qB, qC, qD, qE, qF]
  rw [ev_binA (t := true) rfl]
  simp only [tf, RN, qA, qB, qC, qD, qE, qF]
  refine call_d rfl rfl hkn ?_
  simp only [RN, qA, qB, qC, qD, qE, qF]
 ·rw [marks_law hk] at hM
  have hk' := hk
  simp only [marksOk, Bool.and_eq_true] at hk'
  obtain ⟨⟨⟨⟨h1, h23⟩, h4⟩, h6⟩, h5⟩ := hk'
  have hh : 1 ≤ holes ∧ holes ≤ 120 := by simpa [inR] using h1
  have hst : 0 ≤ steps ∧ steps ≤ holes := by simpa [inR] using h23
  have h2 : ¬ steps < 0 := by omega
  have h3 : ¬ steps > holes := by omega
  have h56 : (starts.all (fun n => inR n 0 (holes - 1)) && inR starts.length 1 4) = true := by rw [h5, h6]; rfl
  have hmb : ∀ x ∈ rMarks holes steps cuts.toNat starts, 0 ≤ x ∧ x ≤ 119 := fun x hx => by
   have := mem_upTo.1 (List.mem_filter.1 hx).1
   omega
  have hml : (rMarks holes steps cuts.toNat starts).length ≤ 120 := by
   have := List.length_filter_le (metS holes steps cuts.toNat starts) (upTo holes.toNat)
   rw [upTo_len] at this
   rw [rMarks]; omega
  have hmn := rMarks_ne hk
  refine call_d rfl rfl hM ?_
  simp only [Sp.dv, RN, qA, qB, qC, qD, qE, qF]
  refine call_d rfl rfl (rHoles_c holes) ?_
  rw [h1]
  simp only [h2, h3, RN, qA, qB, qC, qD, qE, qF]
  refine call_d rfl rfl (rHoles_c cuts) ?_
  rw [h4]
  simp only [RN, qA, qB, qC, qD, qE, qF]
  refine call_d rfl rfl (rStarts_c holes starts hh (by omega)) ?_
  rw [h56]
  simp only [RN, qA, qB, qC, qD, qE, qF]
  refine call_d rfl rfl (rMarks_c holes steps cuts starts hk) ?_
  simp only [y1, RN, qA, qB, qC, qD, qE, qF]
  refine call_d rfl rfl (Same_c _ _ (by omega)) ?_
  have e1 : decide (rMarks holes steps cuts.toNat starts = rMarks holes steps cuts.toNat starts) = true := decide_eq_true rfl
  rw [e1]
  simp only [RN, qA, qB, qC, qD, qE, qF]
  refine call_d rfl rfl (rGaps_c holes _ hh ⟨by cases hz : rMarks holes steps cuts.toNat starts with | nil => exact absurd hz hmn | cons a l => simp, by omega⟩ hmb) ?_
  simp only [Sp.dv, RN, qA, qB, qC, qD, qE, qF]
  rw [ev_binA (t := true) (by simp [cellsEq])]
  simp only [tf, RN, qA, qB, qC, qD, qE, qF]
  refine call_d rfl rfl hkn ?_
  simp only [RN, qA, qB, qC, qD, qE, qF]
end Go.Tel
