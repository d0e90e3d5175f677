/-
  Part 2 of the proof of a law of plates, the law itself: an abstract machine over the model, contracts of functions, plain laws.
  Conditions: none.
-/
import Derived.Test.YtpjjdinlflfgkaaGreatDoorPlateEvensL01
set_option linter.all false
open Nat renaming reduceBEq → qA, reduceAdd → qB, reduceSub → qC, reduceEqDiff → qD, reduceLT → qE, reduceLeDiff → qF
namespace Go.Tel
open Go.Am
structure Fr where
 l : Int
 r : Int
 lo : Int
 hi : Int
end Go.Tel
namespace Go.Tel
open Go.Am
end Go.Tel
namespace Go.Tel
open Go.Am
def rEvenL (holes : Int) (n : Nat) (from_ : Int) : List Int := stepGo holes (holes.tdiv n) holes.toNat (from_.tmod (holes.tdiv n))
def rEvenGo (holes : Int) (marks : List Int) : Nat → Nat → Int × List Int
 | 0, _ => (0, [])
 | k + 1, n =>
  if holes.tmod n != 0 then rEvenGo holes marks k (n + 1)
  else if marks.all (fun m => (rEvenL holes n (marks.getD 0 default)).contains m) then ((n : Int), (rEvenL holes n (marks.getD 0 default)).filter fun x => !marks.contains x)
  else rEvenGo holes marks k (n + 1)
def rEven (holes : Int) (marks : List Int) : Int × List Int := rEvenGo holes marks holes.toNat 1
theorem byGo_dvd {m0 : Int} : ∀ {l : List Int} {g : Nat}, byGo m0 l g ∣ g ∧ ∀ n ∈ l, byGo m0 l g ∣ (n - m0).natAbs
 | [], g => ⟨Nat.dvd_refl _, fun n h => by cases h⟩
 | n :: l, g => by
  obtain ⟨h1, h2⟩ := byGo_dvd (m0 := m0) (l := l) (g := Nat.gcd g (n - m0).natAbs)
  rw [byGo]
  refine ⟨Nat.dvd_trans h1 (Nat.gcd_dvd_left _ _), fun x hx => ?_⟩
  rcases List.mem_cons.1 hx with rfl | hx
  ·exact Nat.dvd_trans h1 (Nat.gcd_dvd_right _ _)
  ·exact h2 x hx
theorem dvd_byGo {m0 : Int} {d : Nat} : ∀ {l : List Int} {g : Nat}, d ∣ g → (∀ n ∈ l, d ∣ (n - m0).natAbs) → d ∣ byGo m0 l g
 | [], _, h, _ => h
 | n :: l, g, h, hl => by
  rw [byGo]
  exact dvd_byGo (Nat.dvd_gcd h (hl n List.mem_cons_self)) fun x hx => hl x (List.mem_cons_of_mem _ hx)
theorem mem_step {holes : Int} {g : Nat} (hg : 0 < g) {x : Int} : ∀ {k : Nat} {s : Int}, x ∈ stepGo holes (g : Int) k s ↔ ∃ j : Nat, j < k ∧ x = s + (j : Int) * g ∧ x < holes
 | 0, s => by simp [stepGo]
 | k + 1, s => by
  rw [stepGo]
  by_cases hs : s < holes
  ·rw [if_pos hs, List.mem_cons, mem_step hg (k := k)]
   constructor
   ·rintro (rfl | ⟨j, h1, h2, h3⟩)
    ·exact ⟨0, by omega, by simp, hs⟩
    ·exact ⟨j + 1, by omega, by rw [h2, Int.natCast_add, Int.add_mul]; omega, h3⟩
   ·rintro ⟨j, h1, h2, h3⟩
    cases j with
    | zero => left; simpa using h2
    | succ j => exact .inr ⟨j, by omega, by rw [h2, Int.natCast_add, Int.add_mul]; omega, h3⟩
  ·rw [if_neg hs]
   constructor
   ·intro h; cases h
   ·rintro ⟨j, h1, h2, h3⟩
    have : 0 ≤ (j : Int) * g := Int.mul_nonneg (by omega) (by omega)
    omega
theorem mem_even {H g : Nat} (hg : 0 < g) {x m : Int} (hm : 0 ≤ m) (hx : 0 ≤ x ∧ x < H) : x ∈ stepGo (H : Int) (g : Int) H (m.tmod g) ↔ g ∣ (x - m).natAbs := by
 rw [mem_step hg]
 rw [Int.tmod_eq_emod_of_nonneg hm]
 have hr0 := Int.emod_nonneg m (b := (g : Int)) (by omega)
 have hr1 := Int.emod_lt_of_pos m (b := (g : Int)) (by omega)
 have hmq := Int.mul_ediv_add_emod m g
 constructor
 ·rintro ⟨j, h1, h2, h3⟩
  have hd : (g : Int) ∣ x - m := ⟨(j : Int) - m / g, by rw [Int.mul_sub, h2, Int.mul_comm (g : Int) (j : Int)]; omega⟩
  exact Int.natAbs_dvd_natAbs.2 hd
 ·intro h
  obtain ⟨q, hq⟩ := Int.natAbs_dvd_natAbs.1 (show (g : Int).natAbs ∣ (x - m).natAbs from h)
  have e : x = m % g + (q + m / g) * g := by
   rw [Int.add_mul, Int.mul_comm q, Int.mul_comm (m / g)]; omega
  have hj : 0 ≤ q + m / g := by
   refine Int.not_lt.1 fun hn => ?_
   have h1 : (q + m / g) * g ≤ (-1) * g := Int.mul_le_mul_of_nonneg_right (by omega) (by omega)
   omega
  refine ⟨(q + m / g).toNat, ?_, ?_, hx.2⟩
  ·have h1 : (q + m / g) * 1 ≤ (q + m / g) * g := Int.mul_le_mul_of_nonneg_left (by omega) hj
   omega
  ·rw [Int.toNat_of_nonneg hj]; exact e
theorem even_all {H n : Nat} {marks : List Int} (hn : 0 < n) (hd : n ∣ H) (hH : 0 < H) (hm : ∀ m ∈ marks, 0 ≤ m ∧ m < H) (h0 : 0 ≤ marks.getD 0 default) :
  marks.all (fun m => (rEvenL (H : Int) n (marks.getD 0 default)).contains m) = true ↔ ∀ m ∈ marks, H / n ∣ (m - marks.getD 0 default).natAbs := by
 have hg : 0 < H / n := Nat.div_pos (Nat.le_of_dvd hH hd) hn
 have e : (H : Int).tdiv (n : Int) = ((H / n : Nat) : Int) := rfl
 rw [List.all_eq_true]
 refine forall_congr' fun m => forall_congr' fun hmm => ?_
 rw [List.contains_iff_mem, rEvenL, e, Int.toNat_natCast]
 exact mem_even hg h0 (hm m hmm)
theorem rEven_at {H B : Nat} {marks : List Int} (hH : 0 < H) (hB : 0 < B) (hBH : B ∣ H) (hm : ∀ m ∈ marks, 0 ≤ m ∧ m < H) (h0 : 0 ≤ marks.getD 0 default)
  (h1 : ∀ m ∈ marks, B ∣ (m - marks.getD 0 default).natAbs) (h2 : ∀ d : Nat, d ∣ H → (∀ m ∈ marks, d ∣ (m - marks.getD 0 default).natAbs) → d ∣ B) :
  ∀ (k n : Nat), 0 < n → n ≤ H / B → H / B < n + k → rEvenGo (H : Int) marks k n = (((H / B : Nat) : Int), (rEvenL (H : Int) (H / B) (marks.getD 0 default)).filter fun x => !marks.contains x)
 | 0, n, _, a, b => by omega
 | k + 1, n, hn, a, b => by
  rw [rEvenGo]
  have e : (H : Int).tmod (n : Int) = ((H % n : Nat) : Int) := rfl
  by_cases he : n = H / B
  ·have hd : n ∣ H := by rw [he]; exact Nat.div_dvd_of_dvd hBH
   have hz : H % n = 0 := Nat.mod_eq_zero_of_dvd hd
   have hb : H / n = B := by rw [he]; exact Nat.div_div_self hBH (by omega)
   rw [if_neg (by rw [e, hz]; decide), if_pos ((even_all hn hd hH hm h0).2 (by rw [hb]; exact h1)), he]
  ·have ih := rEven_at hH hB hBH hm h0 h1 h2 k (n + 1) (by omega) (by omega) (by omega)
   by_cases hz : H % n = 0
   ·have hd : n ∣ H := Nat.dvd_of_mod_eq_zero hz
    rw [if_neg (by rw [e, hz]; decide), if_neg (fun hh => ?_), ih]
    have h3 := h2 (H / n) (Nat.div_dvd_of_dvd hd) ((even_all hn hd hH hm h0).1 hh)
    have h4 := Nat.le_of_dvd hB h3
    have h5 : n * (H / n) = H := Nat.mul_div_cancel' hd
    have h6 : B * (H / B) = H := Nat.mul_div_cancel' hBH
    have h7 : n * (H / n) ≤ n * B := Nat.mul_le_mul_left _ h4
    have h8 : n * B < (H / B) * B := Nat.mul_lt_mul_of_pos_right (by omega) hB
    rw [Nat.mul_comm (H / B)] at h8
    omega
   ·rw [if_pos (by rw [e, bne_iff_ne]; omega), ih]
theorem even_law {holes : Int} {marks : List Int} (h : evenOk holes marks = true) : evenS holes marks = ((rEven holes marks).1, (rEven holes marks).2, 0) := by
 have hk := h
 simp only [evenOk, inR, Bool.and_eq_true, decide_eq_true_eq, ge_iff_le] at hk
 obtain ⟨⟨⟨k1, k2⟩, k3⟩, k4⟩ := hk
 have hm := incGo_mem k4
 obtain ⟨H, rfl⟩ : ∃ H : Nat, holes = (H : Int) := ⟨holes.toNat, by omega⟩
 have hne : marks ≠ [] := by intro hc; rw [hc] at k3; simp at k3
 have hm0 : marks.getD 0 default ∈ marks := by
  cases marks with
  | nil => exact absurd rfl hne
  | cons a l => exact List.mem_cons_self
 have hp := byGo_pos (marks.getD 0 default) marks H (by omega)
 obtain ⟨d1, d2⟩ := byGo_dvd (m0 := marks.getD 0 default) (l := marks) (g := H)
 have hB : evenBy (H : Int) marks = byGo (marks.getD 0 default) marks H := by rw [evenBy, Int.toNat_natCast]
 have hr := rEven_at (marks := marks) (by omega) hp.1 d1 (fun m hm' => by have := hm m hm'; omega) (hm _ hm0).1 d2 (fun d q1 q2 => dvd_byGo q1 q2) H 1 (by omega) (Nat.div_pos hp.2 hp.1) (by have := Nat.div_le_self H (byGo (marks.getD 0 default) marks H); omega)
 rw [evenS, if_pos h, evenNew, hB, rEven, Int.toNat_natCast, hr]
 have e2 : (H : Int).tdiv ((byGo (marks.getD 0 default) marks H : Nat) : Int) = ((H / byGo (marks.getD 0 default) marks H : Nat) : Int) := rfl
 have e3 : (H : Int).tdiv ((H / byGo (marks.getD 0 default) marks H : Nat) : Int) = ((byGo (marks.getD 0 default) marks H : Nat) : Int) := by
  show ((H / (H / byGo (marks.getD 0 default) marks H) : Nat) : Int) = _
  rw [Nat.div_div_self d1 (by omega)]
 rw [e2, rEvenL, e3, Int.toNat_natCast]
end Go.Tel
open Nat renaming reduceBEq → qA, reduceAdd → qB, reduceSub → qC, reduceEqDiff → qD, reduceLT → qE, reduceLeDiff → qF
namespace Go.Tel
open Go.Am
set_option maxRecDepth 10000 in
theorem rHoles_c (n : Int) : Pure C F.ref_Holes [.int .i64 n] (.d (.bool (inR n 1 120))) [] := by
 refine pure_of_pwp_d mixed rfl ok_ref_Holes ?_
 simp only [pc_ref_Holes, rs_ref_Holes, RN, qA, qB, qC, qD, qE, qF]
 refine call_d rfl rfl (rin_c _ _ _) ?_
 simp only [RN, qA, qB, qC, qD, qE, qF]
end Go.Tel
open Nat renaming reduceBEq → qA, reduceAdd → qB, reduceSub → qC, reduceEqDiff → qD, reduceLT → qE, reduceLeDiff → qF
namespace Go.Tel
open Go.Am
set_option maxRecDepth 10000 in
theorem rListed_c (l : List Int) (n : Int) (hl : l.length ≤ 1000000) : Pure C F.ref_Listed [.slice false (l.map intDV), .int .i64 n] (.d (.bool (l.contains n))) [] := by
 refine pure_of_pwp_d mixed rfl ok_ref_Listed ?_
 simp only [pc_ref_Listed, rs_ref_Listed, RN, qA, qB, qC, qD, qE, qF]
 refine pwp_range l.length (fun i (_ : Unit) => ⟨[(0, .d (.slice false (l.map intDV))), (1, .d (.int .i64 n)), (5, .d (.int .i64 i))], ⟨[], [], []⟩⟩)
  (fun i _ => l.contains n = (l.drop i).contains n) 0 () (Nat.zero_le _) rfl rfl (fun i _ g1 hix => ?_) (fun _ hix => ?_)
 ·obtain ⟨g2, g3, g6⟩ := rng g1 hl
  rw [drop_cons g1, List.contains_cons] at hix
  by_cases he : l.getD i default = n
  ·have e1 : (l.getD i default == n) = true := beq_iff_eq.2 he
   rw [show (n == l.getD i default) = true from beq_iff_eq.2 he.symm, Bool.true_or] at hix
   simp only [List.length_map, g2, g3, g1, Int.toNat_natCast, getD_map, dv_int, e1, RN, qA, qB, qC, qD, qE, qF]
   rw [hix]
  ·have e1 : (l.getD i default == n) = false := beq_eq_false_iff_ne.2 he
   rw [show (n == l.getD i default) = false from beq_eq_false_iff_ne.2 (Ne.symm he), Bool.false_or] at hix
   simp only [List.length_map, g2, g3, g1, Int.toNat_natCast, getD_map, dv_int, e1, g6, RN, qA, qB, qC, qD, qE, qF]
   exact up_same () g1 rfl hix (by simp) (by simp) rfl rfl
 ·rw [List.drop_length] at hix
  simp only [Int.lt_irrefl, List.length_map, RN, qA, qB, qC, qD, qE, qF]
  rw [hix]; rfl
def prevOf (l : List Int) (i : Nat) : Option Int := if i = 0 then none else some (l.getD (i - 1) default)
set_option maxRecDepth 10000 in
theorem rMarked_c (holes : Int) (l : List Int) (hh : 1 ≤ holes ∧ holes ≤ 120) (hl : l.length ≤ 1000) : Pure C F.ref_Marked [.int .i64 holes, .slice false (l.map intDV)] (.d (.bool (incGo holes none l && !(l.length == 0)))) [] := by
 have w1 : IntKind.i64.wrap (holes - 1) = holes - 1 := w64_in (by omega)
 refine pure_of_pwp_d mixed rfl ok_ref_Marked ?_
 simp only [pc_ref_Marked, rs_ref_Marked, RN, qA, qB, qC, qD, qE, qF]
 refine pwp_range l.length (fun i (_ : Unit) => ⟨[(0, .d (.int .i64 holes)), (1, .d (.slice false (l.map intDV))), (5, .d (.int .i64 i))], ⟨[], [], []⟩⟩)
  (fun i _ => incGo holes none l = incGo holes (prevOf l i) (l.drop i)) 0 () (Nat.zero_le _) rfl rfl (fun i _ g1 hix => ?_) (fun _ hix => ?_)
 ·obtain ⟨g2, g3, g6⟩ := rng g1 (by omega)
  have hp : prevOf l (i + 1) = some (l.getD i default) := by rw [prevOf, if_neg (by omega), Nat.add_sub_cancel]
  rw [drop_cons g1, incGo, ← hp] at hix
  simp only [List.length_map, g2, g3, g1, Int.toNat_natCast, getD_map, dv_int, w1, RN, qA, qB, qC, qD, qE, qF]
  refine call_d rfl rfl (rin_c _ _ _) ?_
  cases h1 : inR (l.getD i default) 0 (holes - 1)
  ·rw [h1, Bool.false_and, Bool.false_and] at hix
   simp only [RN, qA, qB, qC, qD, qE, qF]
   rw [hix]; rfl
  rw [h1, Bool.true_and] at hix
  by_cases hi : i = 0
  ·have hz : ¬ (i : Int) > 0 := by omega
   have ha : above (prevOf l i) (l.getD i default) = false := by rw [prevOf, if_pos hi]; rfl
   rw [ha, Bool.not_false, Bool.true_and] at hix
   simp only [hz, g6, RN, qA, qB, qC, qD, qE, qF]
   exact up_same () g1 rfl hix (by simp) (by simp) rfl rfl
  have hz : (i : Int) > 0 := by omega
  have w2 : IntKind.i64.wrap ((i : Int) - 1) = ((i - 1 : Nat) : Int) := by rw [w64_in (by omega)]; omega
  have q1 : (0 : Int) ≤ ((i - 1 : Nat) : Int) := by omega
  have q2 : i - 1 < l.length := by omega
  have ha : above (prevOf l i) (l.getD i default) = decide (l.getD i default ≤ l.getD (i - 1) default) := by rw [prevOf, if_neg hi]; rfl
  rw [ha] at hix
  by_cases hle : l.getD i default ≤ l.getD (i - 1) default
  ·rw [decide_eq_true hle, Bool.not_true, Bool.false_and] at hix
   simp only [hz, g3, g1, w2, q1, q2, hle, Int.toNat_natCast, getD_map, dv_int, List.length_map, RN, qA, qB, qC, qD, qE, qF]
   rw [hix]; rfl
  ·rw [decide_eq_false hle, Bool.not_false, Bool.true_and] at hix
   simp only [hz, g3, g1, w2, q1, q2, hle, Int.toNat_natCast, getD_map, dv_int, List.length_map, g6, RN, qA, qB, qC, qD, qE, qF]
   exact up_same () g1 rfl hix (by simp) (by simp) rfl rfl
 ·rw [List.drop_length, incGo] at hix
  by_cases h0 : l.length = 0
  ·have e1 : ¬ (l.length : Int) > 0 := by omega
   simp only [Int.lt_irrefl, List.length_map, e1, RN, qA, qB, qC, qD, qE, qF]
   simp [hix, h0]
  ·have e1 : (l.length : Int) > 0 := by omega
   simp only [Int.lt_irrefl, List.length_map, e1, RN, qA, qB, qC, qD, qE, qF]
   simp [hix, h0]
set_option maxRecDepth 10000 in
theorem rAll_c (l o : List Int) (hl : l.length ≤ 1000000) (ho : o.length ≤ 1000000) : Pure C F.ref_All [.slice false (l.map intDV), .slice false (o.map intDV)] (.d (.bool (o.all fun m => l.contains m))) [] := by
 refine pure_of_pwp_d mixed rfl ok_ref_All ?_
 simp only [pc_ref_All, rs_ref_All, RN, qA, qB, qC, qD, qE, qF]
 refine pwp_range o.length (fun i (_ : Unit) => ⟨[(0, .d (.slice false (l.map intDV))), (1, .d (.slice false (o.map intDV))), (5, .d (.int .i64 i))], ⟨[], [], []⟩⟩)
  (fun i _ => (o.all fun m => l.contains m) = ((o.drop i).all fun m => l.contains m)) 0 () (Nat.zero_le _) rfl rfl (fun i _ g1 hix => ?_) (fun _ hix => ?_)
 ·obtain ⟨g2, g3, g6⟩ := rng g1 ho
  rw [drop_cons g1, List.all_cons] at hix
  simp only [List.length_map, g2, g3, g1, Int.toNat_natCast, getD_map, dv_int, RN, qA, qB, qC, qD, qE, qF]
  refine call_d rfl rfl (rListed_c _ _ hl) ?_
  cases h1 : l.contains (o.getD i default)
  ·rw [h1, Bool.false_and] at hix
   simp only [RN, qA, qB, qC, qD, qE, qF]
   rw [hix]
  ·rw [h1, Bool.true_and] at hix
   simp only [g6, RN, qA, qB, qC, qD, qE, qF]
   exact up_same () g1 rfl hix (by simp) (by simp) rfl rfl
 ·rw [List.drop_length, List.all_nil] at hix
  simp only [Int.lt_irrefl, List.length_map, RN, qA, qB, qC, qD, qE, qF]
  rw [hix]
structure EvS where
 acc : List Int
 ver : Nat
 h : Int
 k : Nat
set_option maxRecDepth 10000 in
theorem reven_c (H n : Nat) (m : Int) (hH : H ≤ 120) (hn : 1 ≤ n ∧ n ≤ H) (hm : 0 ≤ m ∧ m ≤ 120) : Pure C F.ref_even [.int .i64 H, .int .i64 n, .int .i64 m] (.d (.slice false ((rEvenL H n m).map intDV))) [] := by
 have eq : (H : Int).tdiv (n : Int) = ((H / n : Nat) : Int) := rfl
 have hg : 1 ≤ H / n ∧ H / n ≤ 120 := ⟨Nat.div_pos hn.2 (by omega), Nat.le_trans (Nat.div_le_self H n) hH⟩
 generalize hG : H / n = g at *
 have n0 : (n : Int) ≠ 0 := by omega
 have g0 : (g : Int) ≠ 0 := by omega
 have wq : IntKind.i64.wrap (g : Int) = (g : Int) := w64_in (by omega)
 have hr : 0 ≤ m.tmod g ∧ m.tmod g ≤ 120 := ⟨Int.tmod_nonneg _ hm.1, by have := Int.tmod_lt_of_pos m (b := (g : Int)) (by omega); omega⟩
 refine pure_of_pwp_f mixed rfl ok_ref_even ?_
 simp only [pc_ref_even, rs_ref_even, n0, eq, wq, g0, RN, qA, qB, qC, qD, qE, qF]
 refine pwp_while (fun (q : EvS) => ⟨[(0, .d (.int .i64 H)), (7, .d (.int .i64 g)), (8, .tsl 1 q.ver 0), (9, .d (.int .i64 q.h))], ⟨[], [], [some ⟨1, [], 0, 0⟩, some ⟨1, q.acc.map intDV, q.ver, 0⟩]⟩⟩)
  (fun q => stepGo H g H (m.tmod g) = q.acc ++ stepGo H g q.k q.h ∧ 0 ≤ q.h ∧ q.h ≤ 240 ∧ H - q.h ≤ q.k ∧ q.acc.length + q.k ≤ H) (fun q => q.k) ⟨[], 0, m.tmod g, H⟩ rfl ⟨rfl, hr.1, by simp only; omega, by simp only; omega, by simp⟩ (fun q hix => ?_)
 obtain ⟨acc, ver, h, k⟩ := q
 obtain ⟨r1, r2, r3, r4, r5⟩ := hix
 simp only at r1 r2 r3 r4 r5
 by_cases hlt : h < (H : Int)
 ·have wh : IntKind.i64.wrap (h + g) = h + g := w64_in (by omega)
  obtain ⟨k', rfl⟩ : ∃ k', k = k' + 1 := ⟨k - 1, by omega⟩
  rw [stepGo, if_pos hlt] at r1
  simp only [hlt, ev_mkSl1, fits_int, forall_eq, DV.strip, dcells_int, List.length_map, RN, qA, qB, qC, qD, qE, qF]
  refine ⟨by simp, by omega, ?_⟩
  simp only [wh, RN, qA, qB, qC, qD, qE, qF]
  refine wh_same (a := (⟨acc, ver, h, k' + 1⟩ : EvS)) (μ := fun q => q.k) ⟨acc ++ [h], ver + 1, h + g, k'⟩ (by simp only; omega) ?_ ⟨?_, by simp only; omega, by simp only; omega, by simp only; omega, by simp only [List.length_append, List.length_cons, List.length_nil]; omega⟩ (by simp) (by simp) rfl rfl
  ·simp only [List.map_append, List.map_cons, List.map_nil, dv_int]; rfl
  ·rw [r1, List.append_assoc]; rfl
 ·have e0 : stepGo H g k h = [] := by cases k with
   | zero => rfl
   | succ k => rw [stepGo, if_neg hlt]
  rw [e0, List.append_nil] at r1
  simp only [hlt, RN, qA, qB, qC, qD, qE, qF]
  rw [rEvenL, eq, Int.toNat_natCast, r1]
  simp [datum, row_m]
theorem rEvenL_len (H n : Nat) (m : Int) : (rEvenL H n m).length ≤ H := by
 have : ∀ (g : Int) (k : Nat) (s : Int), (stepGo H g k s).length ≤ k := by
  intro g k
  induction k with
  | zero => intro s; simp [stepGo]
  | succ k ih => intro s; rw [stepGo]; split <;> simp [ih]
 rw [rEvenL, Int.toNat_natCast]
 exact this _ _ _
set_option maxRecDepth 10000 in
set_option maxHeartbeats 2000000 in
theorem rEven_c (holes : Int) (marks : List Int) (hh : 1 ≤ holes ∧ holes ≤ 120) (hl : 1 ≤ marks.length ∧ marks.length ≤ 1000) (h0 : 0 ≤ marks.getD 0 default ∧ marks.getD 0 default ≤ 119) :
  Pure C F.ref_Even [.int .i64 holes, .slice false (marks.map intDV)] (.d (.tup [.int .i64 (rEven holes marks).1, .slice false ((rEven holes marks).2.map intDV)])) [] := by
 obtain ⟨H, rfl⟩ := Int.eq_ofNat_of_zero_le (show 0 ≤ holes by omega)
 have z0 : (0 : Int) ≤ 0 := by decide
 have l0 : 0 < marks.length := by omega
 refine pure_of_pwp_f mixed rfl ok_ref_Even ?_
 simp only [pc_ref_Even, rs_ref_Even, RN, qA, qB, qC, qD, qE, qF]
 refine pwp_range H (fun i (_ : Unit) => ⟨[(0, .d (.int .i64 H)), (1, .d (.slice false (marks.map intDV))), (6, .d (.int .i64 ((i + 1 : Nat) : Int)))], ⟨[], [], [some ⟨1, [], 0, 0⟩]⟩⟩)
  (fun i _ => rEven H marks = rEvenGo H marks (H - i) (i + 1)) 0 () (Nat.zero_le _) rfl (by rw [rEven, Int.toNat_natCast]; rfl) (fun i _ g1 hix => ?_) (fun _ hix => ?_)
 ·obtain ⟨_, _, g7⟩ := rng (i := i + 1) (len := H + 1) (by omega) (by omega)
  have g2 : ((i + 1 : Nat) : Int) ≤ (H : Int) := by omega
  have g0 : ((i + 1 : Nat) : Int) ≠ 0 := by omega
  rw [show H - i = (H - (i + 1)) + 1 by omega, rEvenGo] at hix
  by_cases hm : (H : Int).tmod ((i + 1 : Nat) : Int) = 0
  case neg =>
   have e1 : ((H : Int).tmod ((i + 1 : Nat) : Int) != 0) = true := bne_iff_ne.2 hm
   rw [if_pos e1] at hix
   simp only [g2, g0, e1, g7, RN, qA, qB, qC, qD, qE, qF]
   exact up_same () g1 rfl hix (by simp) (by simp) rfl rfl
  have e1 : ((H : Int).tmod ((i + 1 : Nat) : Int) != 0) = false := by rw [hm]; rfl
  rw [e1] at hix
  rw [if_neg (by decide)] at hix
  simp only [g2, g0, e1, z0, l0, Int.toNat_zero, getD_map, dv_int, List.length_map, RN, qA, qB, qC, qD, qE, qF]
  refine call_d rfl rfl (reven_c H (i + 1) _ (by omega) (by omega) (by omega)) ?_
  simp only [RN, qA, qB, qC, qD, qE, qF]
  have hel := rEvenL_len H (i + 1) (marks.getD 0 default)
  refine call_d rfl rfl (rAll_c _ _ (by omega) (by omega)) ?_
  cases ha : marks.all fun m => (rEvenL H (i + 1) (marks.getD 0 default)).contains m
  ·rw [ha] at hix
   rw [if_neg (by decide)] at hix
   simp only [g7, RN, qA, qB, qC, qD, qE, qF]
   exact up_same () g1 rfl hix (by simp) (by simp) rfl rfl
  rw [ha, if_pos rfl] at hix
  simp only [RN, qA, qB, qC, qD, qE, qF]
  generalize rEvenL H (i + 1) (marks.getD 0 default) = L at *
  refine pwp_range L.length (fun j (q : List Int × Nat) => ⟨[(1, .d (.slice false (marks.map intDV))), (6, .d (.int .i64 ((i + 1 : Nat) : Int))), (7, .d (.slice false (L.map intDV))), (8, .tsl 1 q.2 0), (9, .d (.int .i64 j))], ⟨[], [], [some ⟨1, [], 0, 0⟩, some ⟨1, q.1.map intDV, q.2, 0⟩]⟩⟩)
   (fun j q => (L.filter fun x => !marks.contains x) = q.1 ++ (L.drop j).filter (fun x => !marks.contains x) ∧ q.1.length ≤ j) 0 ([], 0) (Nat.zero_le _) rfl ⟨rfl, Nat.le_refl _⟩ (fun j q f1 hjx => ?_) (fun q hjx => ?_)
  ·obtain ⟨acc, ver⟩ := q
   obtain ⟨r1, r2⟩ := hjx
   simp only at r1 r2
   obtain ⟨f2, f3, f6⟩ := rng f1 (by omega)
   rw [drop_cons f1, List.filter_cons] at r1
   simp only [f2, f3, f1, Int.toNat_natCast, getD_map, dv_int, List.length_map, RN, qA, qB, qC, qD, qE, qF]
   refine call_d rfl rfl (rListed_c marks _ (by omega)) ?_
   cases hc : marks.contains (L.getD j default)
   ·rw [hc, Bool.not_false, if_pos rfl] at r1
    simp only [f3, f1, Int.toNat_natCast, getD_map, dv_int, ev_mkSl1, fits_int, forall_eq, DV.strip, dcells_int, List.length_map, RN, qA, qB, qC, qD, qE, qF]
    refine ⟨by simp, by omega, ?_⟩
    simp only [f6, RN, qA, qB, qC, qD, qE, qF]
    refine up_same (acc ++ [L.getD j default], ver + 1) f1 ?_ ⟨?_, by simp only [List.length_append, List.length_cons, List.length_nil]; omega⟩ (by simp) (by simp) rfl rfl
    ·simp only [List.map_append, List.map_cons, List.map_nil, dv_int]; rfl
    ·rw [r1, List.append_assoc]; rfl
   ·rw [hc, Bool.not_true] at r1
    rw [if_neg (by decide)] at r1
    simp only [f6, RN, qA, qB, qC, qD, qE, qF]
    exact up_same (acc, ver) f1 rfl ⟨r1, by simp only; omega⟩ (by simp) (by simp) rfl rfl
  ·obtain ⟨acc, ver⟩ := q
   obtain ⟨r1, r2⟩ := hjx
   simp only at r1 r2
   rw [List.drop_length, List.filter_nil, List.append_nil] at r1
   simp only [Int.lt_irrefl, List.length_map, allD_t, Option.map_none, tupO_none, RN, qA, qB, qC, qD, qE, qF]
   rw [hix, r1]
   simp [datum, datum0L, datum0, row_m]
 ·rw [Nat.sub_self, rEvenGo] at hix
  have e1 : ¬ ((H + 1 : Nat) : Int) ≤ (H : Int) := by omega
  simp only [e1, allD_t, Option.map_none, tupO_none, RN, qA, qB, qC, qD, qE, qF]
  rw [hix]
  simp [datum, datum0L, datum0, row_m]
set_option maxRecDepth 10000 in
set_option maxHeartbeats 4000000 in
theorem PlateEvens_c (hkn : KnownC) (holes : Int) (marks : List Int) : Pure Go.Tel.C F.law_PlateEvens [.int .i64 holes, .slice false (marks.map intDV)] (.d (.bool true)) [] := by
 have hkn : Pure C F.law_known [] (.d (.bool true)) [] := hkn
 have y0 : (((0 : Nat) : Int) == 0) = true := rfl
 have y1 : ((0 : Int) == 0) = true := rfl
 have y2 : ((2 : Int) == 2) = true := rfl
 refine pure_of_pwp_d mixed rfl ok_law_PlateEvens ?_
 simp only [pc_law_PlateEvens, rs_law_PlateEvens, List.length_map, RN, qA, qB, qC, qD, qE, qF]
 by_cases hs : (marks.length : Int) > 130
 ·simp only [hs, RN, qA, qB, qC, qD, qE, qF]
  refine call_d rfl rfl hkn ?_
  simp only [RN, qA, qB, qC, qD, qE, qF]
 simp only [hs, RN, qA, qB, qC, qD, qE, qF]
 have hM := Even_c holes marks (by omega)
 cases hk : evenOk holes marks
 ·have hB : evenS holes marks = (0, [], 2) := by rw [evenS, if_neg (by rw [hk]; decide)]
  rw [hB] at hM
  refine call_d rfl rfl hM ?_
  simp only [RN, qA, qB, qC, qD, qE, qF]
  refine call_d rfl rfl (rHoles_c holes) ?_
  cases h1 : inR holes 1 120
  ·simp only [y2, y1, y0, RN, qA, qB, qC, qD, qE, qF]
   refine call_d rfl rfl hkn ?_
   simp only [RN, qA, qB, qC, qD, qE, qF]
  have hh : 1 ≤ holes ∧ holes ≤ 120 := by simpa [inR] using h1
  simp only [RN, qA, qB, qC, qD, qE, qF]
  refine call_d rfl rfl (rMarked_c holes marks hh (by omega)) ?_
  have h5 : (incGo holes none marks && !(marks.length == 0)) = false := by
   rw [evenOk, h1, Bool.true_and, Bool.and_comm] at hk
   exact hk
  rw [h5]
  simp only [y2, y1, y0, RN, qA, qB, qC, qD, qE, qF]
  refine call_d rfl rfl hkn ?_
  simp only [RN, qA, qB, qC, qD, qE, qF]
 ·rw [even_law hk] at hM
  have hk' := hk
  simp only [evenOk, Bool.and_eq_true] at hk'
  obtain ⟨⟨h1, h2⟩, h3⟩ := hk'
  have hh : 1 ≤ holes ∧ holes ≤ 120 := by simpa [inR] using h1
  have h5 : (incGo holes none marks && !(marks.length == 0)) = true := by rw [h2, h3]; rfl
  have hl : 1 ≤ marks.length := by
   cases hz : marks with
   | nil => rw [hz] at h2; simp at h2
   | cons a l => simp
  have hm := incGo_mem h3 _ (getD_mem (show 0 < marks.length by omega))
  refine call_d rfl rfl hM ?_
  simp only [RN, qA, qB, qC, qD, qE, qF]
  refine call_d rfl rfl (rHoles_c holes) ?_
  rw [h1]
  simp only [RN, qA, qB, qC, qD, qE, qF]
  refine call_d rfl rfl (rMarked_c holes marks hh (by omega)) ?_
  rw [h5]
  simp only [RN, qA, qB, qC, qD, qE, qF]
  refine call_d rfl rfl (rEven_c holes marks hh (by omega) (by omega)) ?_
  have y3 : ((rEven holes marks).1 == (rEven holes marks).1) = true := beq_self_eq_true _
  have e1 : decide ((rEven holes marks).2 = (rEven holes marks).2) = true := decide_eq_true rfl
  have hEl : (rEven holes marks).2.length ≤ 1000 := by
   have : ∀ k n, (rEvenGo holes marks k n).2.length ≤ 120 := by
    obtain ⟨H, rfl⟩ := Int.eq_ofNat_of_zero_le (show 0 ≤ holes by omega)
    intro k
    induction k with
    | zero => intro n; simp [rEvenGo]
    | succ k ih =>
     intro n
     rw [rEvenGo]
     split
     ·exact ih _
     ·split
      ·have := List.length_filter_le (fun x => !marks.contains x) (rEvenL (H : Int) n (marks.getD 0 default))
       have := rEvenL_len H n (marks.getD 0 default)
       simp only; omega
      ·exact ih _
   have := this holes.toNat 1
   rw [rEven]; omega
  simp only [y1, y3, RN, qA, qB, qC, qD, qE, qF]
  refine call_d rfl rfl (Same_c _ _ (by omega)) ?_
  rw [e1]
  simp only [RN, qA, qB, qC, qD, qE, qF]
  refine call_d rfl rfl hkn ?_
  simp only [RN, qA, qB, qC, qD, qE, qF]
end Go.Tel
