/-
  Part 2 of the proof of a law of plates, the law itself: an abstract machine over the model, contracts of functions, plain laws.
  Conditions: none.
-/
import Derived.Test.YtpjjdinlflfgkabGreatDoorPlateRoundL01
set_option linter.all false
namespace Go.Tel
end Go.Tel
open Nat renaming reduceBEq → qA, reduceAdd → qB, reduceSub → qC, reduceEqDiff → qD, reduceLT → qE, reduceLeDiff → qF
namespace Go.Tel
open Go.Am
end Go.Tel
open Nat renaming reduceBEq → qA, reduceAdd → qB, reduceSub → qC, reduceEqDiff → qD, reduceLT → qE, reduceLeDiff → qF
namespace Go.Tel
open Go.Am
end Go.Tel
namespace Go.Tel
open Go.Am
end Go.Tel
open Nat renaming reduceBEq → qA, reduceAdd → qB, reduceSub → qC, reduceEqDiff → qD, reduceLT → qE, reduceLeDiff → qF
namespace Go.Tel
open Go.Am
end Go.Tel
open Nat renaming reduceBEq → qA, reduceAdd → qB, reduceSub → qC, reduceEqDiff → qD, reduceLT → qE, reduceLeDiff → qF
namespace Go.Tel
open Go.Am
set_option maxRecDepth 10000 in
theorem rListed_c (l : List Int) (n : Int) (hl : l.length ≤ 1000000) : Pure C F.ref_Listed [.slice false (l.map intDV), .int .i64 n] (.d (.bool (l.contains n))) [] := by
 refine pure_of_pwp_d mixed rfl ok_ref_Listed ?_
 simp only [pc_ref_Listed, rs_ref_Listed, RN, qA, qB, qC, qD, qE, qF]
 refine pwp_range l.length (fun i (_ : Unit) => ⟨[(0, .d (.slice false (l.map intDV))), (1, .d (.int .i64 n)), (5, .d (.int .i64 i))], ⟨[], [], []⟩⟩)
  (fun i _ => l.contains n = (l.drop i).contains n) 0 () (Nat.zero_le _) rfl rfl (fun i _ g1 hix => ?_) (fun _ hix => ?_)
 ·obtain ⟨g2, g3, g6⟩ := rng g1 hl
  rw [drop_cons g1, List.contains_cons] at hix
  by_cases he : l.getD i default = n
  ·have e1 : (l.getD i default == n) = true := beq_iff_eq.2 he
   rw [show (n == l.getD i default) = true from beq_iff_eq.2 he.symm, Bool.true_or] at hix
   simp only [List.length_map, g2, g3, g1, Int.toNat_natCast, getD_map, dv_int, e1, RN, qA, qB, qC, qD, qE, qF]
   rw [hix]
  ·have e1 : (l.getD i default == n) = false := beq_eq_false_iff_ne.2 he
   rw [show (n == l.getD i default) = false from beq_eq_false_iff_ne.2 (Ne.symm he), Bool.false_or] at hix
   simp only [List.length_map, g2, g3, g1, Int.toNat_natCast, getD_map, dv_int, e1, g6, RN, qA, qB, qC, qD, qE, qF]
   exact up_same () g1 rfl hix (by simp) (by simp) rfl rfl
 ·rw [List.drop_length] at hix
  simp only [Int.lt_irrefl, List.length_map, RN, qA, qB, qC, qD, qE, qF]
  rw [hix]; rfl
end Go.Tel
open Nat renaming reduceBEq → qA, reduceAdd → qB, reduceSub → qC, reduceEqDiff → qD, reduceLT → qE, reduceLeDiff → qF
namespace Go.Am
end Go.Am
namespace Go.Tel
open Go.Am
structure WoS where
 ver : Nat
 c : PV
 ar : List (Option Arr)
end Go.Tel
namespace Go.Tel
open Go.Am
end Go.Tel
open Nat renaming reduceBEq → qA, reduceAdd → qB, reduceSub → qC, reduceEqDiff → qD, reduceLT → qE, reduceLeDiff → qF
namespace Go.Am
end Go.Am
namespace Go.Tel
open Go.Am
end Go.Tel
open Nat renaming reduceBEq → qA, reduceAdd → qB, reduceSub → qC, reduceEqDiff → qD, reduceLT → qE, reduceLeDiff → qF
namespace Go.Tel
open Go.Am
set_option maxRecDepth 10000 in
theorem rCount_c (n : Int) : Pure C F.ref_Count [.int .i64 n] (.d (.bool (inR n 1 400))) [] := by
 refine pure_of_pwp_d mixed rfl ok_ref_Count ?_
 simp only [pc_ref_Count, rs_ref_Count, RN, qA, qB, qC, qD, qE, qF]
 refine call_d rfl rfl (rin_c _ _ _) ?_
 simp only [RN, qA, qB, qC, qD, qE, qF]
set_option maxRecDepth 10000 in
theorem rDivider_c (d : Dvd) (hl : d.cir.length ≤ 1000) : Pure C F.ref_Divider [d.dv] (.d (.bool d.ok)) [] := by
 refine pure_of_pwp_d mixed rfl ok_ref_Divider ?_
 simp only [pc_ref_Divider, rs_ref_Divider, dv_Dvd, RN, qA, qB, qC, qD, qE, qF]
 refine pwp_range d.cir.length (fun i (_ : Unit) => ⟨[(1, .d (.cptr [.int .i64 d.worm, .slice false (d.cir.map intDV)])), (3, .d (.int .i64 i))], ⟨[some [.d (.int .i64 d.worm), .d (.slice false (d.cir.map intDV))]], [0], []⟩⟩)
  (fun i _ => (d.cir.all fun n => inR n 1 120) = ((d.cir.drop i).all fun n => inR n 1 120)) 0 () (Nat.zero_le _) rfl rfl (fun i _ g1 hix => ?_) (fun _ hix => ?_)
 ·obtain ⟨g2, g3, g6⟩ := rng g1 (by omega)
  rw [drop_cons g1, List.all_cons] at hix
  simp only [List.length_map, g2, g3, g1, Int.toNat_natCast, getD_map, dv_int, RN, qA, qB, qC, qD, qE, qF]
  refine call_d rfl rfl (rin_c _ _ _) ?_
  cases h1 : inR (d.cir.getD i default) 1 120
  ·rw [h1, Bool.false_and] at hix
   simp only [RN, qA, qB, qC, qD, qE, qF]
   rw [Dvd.ok, hix, Bool.and_false]
  ·rw [h1, Bool.true_and] at hix
   simp only [g6, RN, qA, qB, qC, qD, qE, qF]
   exact up_same () g1 rfl hix (by simp) (by simp) rfl rfl
 ·rw [List.drop_length, List.all_nil] at hix
  simp only [Int.lt_irrefl, List.length_map, RN, qA, qB, qC, qD, qE, qF]
  refine call_d rfl rfl (rin_c _ _ _) ?_
  cases h1 : inR d.worm 1 60
  ·simp only [RN, qA, qB, qC, qD, qE, qF]
   rw [Dvd.ok, h1]; rfl
  ·simp only [List.length_map, RN, qA, qB, qC, qD, qE, qF]
   refine call_d rfl rfl (rin_c _ _ _) ?_
   rw [Dvd.ok, h1, hix, Bool.and_true]; rfl
def Dvd.first (d : Dvd) (t : Int) : Option Ix := cutGo d.worm t 0 d.cir
def Dvd.numsTo (d : Dvd) (n : Nat) : List Int := ((List.range n).map fun (i : Nat) => (i : Int) + 1).filter fun t => (d.first t).isSome
def Dvd.numbers (d : Dvd) : List Int × Int := if d.ok then (d.numsTo 400, 0) else ([], 2)
theorem numsTo_succ (d : Dvd) (n : Nat) : d.numsTo (n + 1) = d.numsTo n ++ (if (d.first ((n : Int) + 1)).isSome then [(n : Int) + 1] else []) := by
 rw [Dvd.numsTo, List.range_succ, List.map_append, List.filter_append, ← Dvd.numsTo, List.map_cons, List.map_nil, List.filter_cons, List.filter_nil]
theorem numsTo_len (d : Dvd) (n : Nat) : (d.numsTo n).length ≤ n := by
 rw [Dvd.numsTo]
 refine Nat.le_trans (List.length_filter_le _ _) ?_
 simp
set_option maxRecDepth 10000 in
theorem Numbers_c (d : Dvd) (hl : d.cir.length ≤ 1000) : Pure C F.plate_Numbers [d.dv] (.d (.tup [.slice false (d.numbers.1.map intDV), .int .i64 d.numbers.2])) [] := by
 have hd := isDivider_c d (by omega)
 rw [dv_Dvd] at hd
 refine pure_of_pwp_f mixed rfl ok_plate_Numbers ?_
 simp only [pc_plate_Numbers, rs_plate_Numbers, dv_Dvd, RN, qA, qB, qC, qD, qE, qF]
 refine call_d rfl rfl hd ?_
 cases hok : d.ok
 ·have e : d.numbers = ([], 2) := by rw [Dvd.numbers, hok]; rfl
  simp only [allD_t, Option.map_none, tupO_none, RN, qA, qB, qC, qD, qE, qF]
  simp [datum, datum0L, datum0, row_m, e]
 have e : d.numbers = (d.numsTo 400, 0) := by rw [Dvd.numbers, hok]; rfl
 simp only [RN, qA, qB, qC, qD, qE, qF]
 refine pwp_range 400 (fun i (q : List Int × Nat) => ⟨[(1, .d (.cptr [.int .i64 d.worm, .slice false (d.cir.map intDV)])), (4, .tsl 1 q.2 0), (5, .d (.int .i64 ((i : Int) + 1)))], ⟨[some [.d (.int .i64 d.worm), .d (.slice false (d.cir.map intDV))]], [0], [some ⟨1, [], 0, 0⟩, some ⟨1, q.1.map intDV, q.2, 0⟩]⟩⟩)
  (fun i q => q.1 = d.numsTo i) 0 ([], 0) (Nat.zero_le _) rfl rfl (fun i q g1 hix => ?_) (fun q hix => ?_)
 ·obtain ⟨acc, ver⟩ := q
  simp only at hix
  have g2 : (i : Int) + 1 ≤ 400 := by omega
  have g6 : IntKind.i64.wrap ((i : Int) + 1 + 1) = ((i + 1 : Nat) : Int) + 1 := by rw [w64_in (by omega)]; omega
  have hcu := Cuts_c d ((i : Int) + 1) (by omega)
  rw [dv_Dvd, dv_Ix] at hcu
  have hs := numsTo_succ d i
  have hln := numsTo_len d i
  rw [← hix] at hs hln
  have hin : inR ((i : Int) + 1) 1 400 = true := by simp only [inR, Bool.and_eq_true, decide_eq_true_eq]; omega
  have hc2 : d.cuts ((i : Int) + 1) = (match d.first ((i : Int) + 1) with | some x => (x, 0) | none => (⟨0, 0, 0⟩, 5)) := by rw [Dvd.cuts, hok, hin]; rfl
  have z0 : ((0 : Int) == 0) = true := rfl
  have z5 : ((5 : Int) == 0) = false := rfl
  simp only [g2, RN, qA, qB, qC, qD, qE, qF]
  refine call_d rfl rfl hcu ?_
  cases hx : d.first ((i : Int) + 1) with
  | none =>
   rw [hx] at hs hc2
   simp only [hc2, z5, g6, RN, qA, qB, qC, qD, qE, qF]
   exact up_take 1 2 (acc, ver) g1 rfl (by simpa using hs.symm) (by simp) (by simp) rfl rfl
  | some x =>
   rw [hx] at hs hc2
   simp only [hc2, z0, ev_mkSl1, fits_int, forall_eq, DV.strip, dcells_int, List.length_map, RN, qA, qB, qC, qD, qE, qF]
   refine ⟨by simp, by omega, ?_⟩
   simp only [g6, RN, qA, qB, qC, qD, qE, qF]
   refine up_take 1 2 (acc ++ [(i : Int) + 1], ver + 1) g1 ?_ (by simpa using hs.symm) (by simp) (by simp) rfl rfl
   simp only [List.map_append, List.map_cons, List.map_nil, dv_int]; rfl
 ·obtain ⟨acc, ver⟩ := q
  simp only at hix
  have g2 : ¬ ((400 : Nat) : Int) + 1 ≤ 400 := by omega
  simp only [g2, allD_t, Option.map_none, tupO_none, RN, qA, qB, qC, qD, qE, qF]
  simp [datum, datum0L, datum0, row_m, hix, e]
end Go.Tel
open Nat renaming reduceBEq → qA, reduceAdd → qB, reduceSub → qC, reduceEqDiff → qD, reduceLT → qE, reduceLeDiff → qF
namespace Go.Tel
open Go.Am
end Go.Tel
open Nat renaming reduceBEq → qA, reduceAdd → qB, reduceSub → qC, reduceEqDiff → qD, reduceLT → qE, reduceLeDiff → qF
namespace Go.Tel
open Go.Am
theorem ev_ixF {C : Ctx} {base : Nat} {M : Mem} {K : PV → Mem → Prop} {KP : DV → Mem → Prop} {a b c : Int} : runOp C base (.binA true [1, 1, 1]) [.d (.agg [.int .i64 a, .int .i64 b, .int .i64 c]), .d (.agg [.int .i64 a, .int .i64 b, .int .i64 c])] M K KP = K (.d (.bool false)) M := by
 rw [ev_binA (t := true) (by simp [cellsEq])]; rfl
theorem hasV_dvd {x : DV} (h : HasV dvdTy x) : ∃ d : Dvd, x = d.dv := by
 obtain ⟨h, hs⟩ := h
 obtain ⟨cs, rfl⟩ := hs.1 rfl
 obtain ⟨a, _, e1, h1⟩ := has_i h
 obtain ⟨b, _, rfl, h2⟩ := has_s has_in h1
 obtain rfl := has_nil h2
 exact ⟨⟨a, b⟩, by rw [Dvd.dv]; exact congrArg DV.agg e1⟩
end Go.Tel
open Nat renaming reduceBEq → qA, reduceAdd → qB, reduceSub → qC, reduceEqDiff → qD, reduceLT → qE, reduceLeDiff → qF
namespace Go.Tel
open Go.Am
theorem cutGo_some {W t : Int} : ∀ (hs : List Int) (k : Nat) {x : Ix}, cutGo W t k hs = some x → ∃ i, i < hs.length ∧ x = cutIx W (hs.getD i default) t ((k + i : Nat) : Int) ∧ canCut W (hs.getD i default) t = true ∧ ∀ j, j < i → canCut W (hs.getD j default) t = false
 | [], k, x, h => by rw [cutGo] at h; cases h
 | a :: hs, k, x, h => by
  rw [cutGo] at h
  cases hc : canCut W a t with
  | true =>
   rw [hc, if_pos rfl] at h
   cases h
   exact ⟨0, by simp, rfl, hc, fun j hj => by omega⟩
  | false =>
   rw [hc, if_neg (by decide)] at h
   obtain ⟨i, h1, h2, h3, h4⟩ := cutGo_some hs (k + 1) h
   refine ⟨i + 1, by simpa using h1, by rw [h2, show k + 1 + i = k + (i + 1) by omega]; rfl, h3, fun j hj => ?_⟩
   cases j with
   | zero => exact hc
   | succ j => exact h4 j (by omega)
theorem cutGo_none {W t : Int} : ∀ (hs : List Int) (k : Nat), cutGo W t k hs = none → ∀ j, j < hs.length → canCut W (hs.getD j default) t = false
 | [], k, h, j, hj => by cases hj
 | a :: hs, k, h, j, hj => by
  rw [cutGo] at h
  cases hc : canCut W a t with
  | true => rw [hc, if_pos rfl] at h; cases h
  | false =>
   rw [hc, if_neg (by decide)] at h
   cases j with
   | zero => exact hc
   | succ j => exact cutGo_none hs (k + 1) h j (by simpa using hj)
theorem one_cut' {W h t : Int} (hw : 1 ≤ W ∧ W ≤ 60) (hc : 1 ≤ h ∧ h ≤ 120) (ht : inR t 1 400 = true) :
  (⟨W, [h]⟩ : Dvd).cuts t = if canCut W h t then (cutIx W h t 0, 0) else (⟨0, 0, 0⟩, 5) := by
 have h1 : (⟨W, [h]⟩ : Dvd).ok = true := by
  simp [Dvd.ok, inR]
  omega
 rw [Dvd.cuts, h1, ht, Bool.and_self, if_pos rfl]
 simp only [cutGo]
 cases canCut W h t <;> rfl
theorem one_cut {d : Dvd} (hok : d.ok = true) {i : Nat} (hi : i < d.cir.length) {t : Int} (ht : inR t 1 400 = true) :
  (⟨d.worm, [d.cir.getD i default]⟩ : Dvd).cuts t = if canCut d.worm (d.cir.getD i default) t then (cutIx d.worm (d.cir.getD i default) t 0, 0) else (⟨0, 0, 0⟩, 5) := by
 obtain ⟨hw, _, hcs⟩ := Dvd.ok_facts hok
 exact one_cut' hw (hcs _ (getD_mem hi)) ht
theorem round_fact {W h t : Int} (hW : 1 ≤ W ∧ W ≤ 60) (hh : 1 ≤ h ∧ h ≤ 120) (ht : 1 ≤ t) (hc : canCut W h t = true) :
  ∃ q u v : Int, (∀ k, cutIx W h t k = ⟨k, u, v⟩) ∧ u * h + v = q ∧ 0 ≤ u ∧ u ≤ 60 ∧ 0 ≤ v ∧ v < h ∧ 0 ≤ u * h ∧ 1 ≤ q ∧ t * q = W * h ∧ W * h ≤ 7200 ∧ 1 ≤ W * h := by
 have hm : (W * h).tmod t = 0 := by rw [canCut, beq_iff_eq] at hc; exact hc
 have h1 := Int.mul_le_mul hW.2 hh.2 (by omega) (by omega)
 have h2 := Int.mul_le_mul hW.1 hh.1 (by omega) (by omega)
 have e1 := Int.mul_tdiv_add_tmod (W * h) t
 rw [hm, Int.add_zero] at e1
 generalize hq : (W * h).tdiv t = q at *
 have hq1 : 1 ≤ q := by
  rcases (show q < 1 ∨ q ≥ 1 by omega) with hlt | hge
  ·have := Int.mul_le_mul_of_nonneg_left (show q ≤ 0 by omega) (show 0 ≤ t by omega)
   rw [Int.mul_zero] at this; omega
  ·exact hge
 have e2 := Int.mul_tdiv_add_tmod q h
 have hv : 0 ≤ q.tmod h ∧ q.tmod h < h := ⟨Int.tmod_nonneg _ (by omega), Int.tmod_lt_of_pos q (by omega)⟩
 have hu : 0 ≤ q.tdiv h := Int.tdiv_nonneg (by omega) (by omega)
 have hqn : q ≤ W * h := by
  have := Int.mul_le_mul_of_nonneg_right ht (show 0 ≤ q by omega)
  rw [Int.one_mul] at this; omega
 have hWh : W * h ≤ 60 * h := Int.mul_le_mul_of_nonneg_right hW.2 (by omega)
 have e3 : h * q.tdiv h = q.tdiv h * h := Int.mul_comm _ _
 have huh : 0 ≤ q.tdiv h * h := Int.mul_nonneg hu (by omega)
 refine ⟨q, q.tdiv h, q.tmod h, fun k => by rw [cutIx, hq], by omega, hu, ?_, hv.1, hv.2, huh, hq1, e1, by omega, by omega⟩
 rcases (show q.tdiv h < 61 ∨ q.tdiv h ≥ 61 by omega) with hlt | hge
 ·omega
 ·have := Int.mul_le_mul_of_nonneg_right hge (show 0 ≤ h by omega)
  omega
theorem nums_has (d : Dvd) {t : Int} (ht : inR t 1 400 = true) : (d.numsTo 400).contains t = (d.first t).isSome := by
 simp only [inR, Bool.and_eq_true, decide_eq_true_eq] at ht
 rw [Bool.eq_iff_iff, List.contains_iff_mem, Dvd.numsTo, List.mem_filter]
 refine ⟨fun h => h.2, fun h => ⟨List.mem_map.2 ⟨(t - 1).toNat, List.mem_range.2 (by omega), by omega⟩, h⟩⟩
set_option maxRecDepth 10000 in
set_option maxHeartbeats 4000000 in
theorem PlateRound_c (hkn : KnownC) (d : Dvd) (t : Int) : Pure Go.Tel.C F.law_PlateRound [d.dv, .int .i64 t] (.d (.bool true)) [] := by
 have hkn : Pure C F.law_known [] (.d (.bool true)) [] := hkn
 have y0 : ((0 : Int) == 0) = true := rfl
 have n0 : ((0 : Int) != 0) = false := rfl
 have n55 : ((5 : Int) != 5) = false := rfl
 have bb1 : ((false == false) != true) = false := rfl
 have bb2 : ((true == true) != true) = false := rfl
 have y50 : ((5 : Int) == 0) = false := rfl
 refine pure_of_pwp_d mixed rfl ok_law_PlateRound ?_
 by_cases s1 : (d.cir.length : Int) > 8
 ·simp only [pc_law_PlateRound, rs_law_PlateRound, dv_Dvd, List.not_mem_nil, List.length_map, s1, RN, qA, qB, qC, qD, qE, qF]
  refine call_d rfl rfl hkn ?_
  simp only [RN, qA, qB, qC, qD, qE, qF]
 have h1 := Cuts_c d t (by omega)
 have h2 := Numbers_c d (by omega)
 have h4 := rDivider_c d (by omega)
 rw [dv_Dvd] at h1 h2 h4
 rw [dv_Ix] at h1
 simp only [pc_law_PlateRound, rs_law_PlateRound, dv_Dvd, List.not_mem_nil, List.length_map, s1, RN, qA, qB, qC, qD, qE, qF]
 refine call_d rfl rfl h4 ?_
 cases hok : d.ok
 ·simp only [RN, qA, qB, qC, qD, qE, qF]
  refine call_d rfl rfl hkn ?_
  simp only [RN, qA, qB, qC, qD, qE, qF]
 simp only [RN, qA, qB, qC, qD, qE, qF]
 refine call_d rfl rfl (rCount_c t) ?_
 cases ht : inR t 1 400
 ·simp only [RN, qA, qB, qC, qD, qE, qF]
  refine call_d rfl rfl hkn ?_
  simp only [RN, qA, qB, qC, qD, qE, qF]
 have ht1 : 1 ≤ t ∧ t ≤ 400 := by simp only [inR, Bool.and_eq_true, decide_eq_true_eq] at ht; omega
 obtain ⟨T, rfl⟩ := Int.eq_ofNat_of_zero_le (show 0 ≤ t by omega)
 obtain ⟨hw, hcl, hcs⟩ := Dvd.ok_facts hok
 have e2 : d.numbers = (d.numsTo 400, 0) := by rw [Dvd.numbers, hok]; rfl
 have hnl := numsTo_len d 400
 have n4 : ¬ ((d.numsTo 400).length : Int) > 400 := by omega
 have hhas := nums_has d ht
 have e1 : d.cuts T = (match d.first T with | some x => (x, 0) | none => (⟨0, 0, 0⟩, 5)) := by rw [Dvd.cuts, hok, ht]; rfl
 simp only [RN, qA, qB, qC, qD, qE, qF]
 refine call_d rfl rfl h1 ?_
 simp only [List.not_mem_nil, RN, qA, qB, qC, qD, qE, qF]
 refine call_d rfl rfl h2 ?_
 simp only [e2, n0, n4, List.length_map, RN, qA, qB, qC, qD, qE, qF]
 refine call_d rfl rfl (rListed_c _ _ (by omega)) ?_
 rw [hhas]
 cases hfi : d.first T with
 | none =>
  have hno := cutGo_none d.cir 0 hfi
  rw [hfi] at e1
  simp only [e1, n55, y50, bb1, Option.isSome_none, List.length_map, RN, qA, qB, qC, qD, qE, qF]
  refine pwp_range d.cir.length (fun j (_ : Unit) => ⟨[(1, .d (.int .i64 T)), (2, .d (.cptr [.int .i64 d.worm, .slice false (d.cir.map intDV)])), (9, .d (.int .i64 d.cir.length)), (15, .d (.int .i64 j))], ⟨[some [.d (.int .i64 d.worm), .d (.slice false (d.cir.map intDV))], some [.d (.int .i64 0), .d (.int .i64 0), .d (.int .i64 0)]], [1, 0], []⟩⟩)
   (fun _ _ => True) 0 () (Nat.zero_le _) rfl trivial (fun j _ f1 _ => ?_) (fun _ _ => ?_)
  ·have g1 : j < d.cir.length := by omega
   obtain ⟨f2, f3, f6⟩ := rng f1 (by omega)
   have hone := one_cut hok g1 ht
   rw [if_neg (by rw [hno j (by omega)]; decide)] at hone
   have hcu : Pure C F.plate_Cuts [.agg [.int .i64 d.worm, .slice false [.int .i64 (d.cir.getD j default)]], .int .i64 T] (.d (.tup [((⟨d.worm, [d.cir.getD j default]⟩ : Dvd).cuts T).1.dv, .int .i64 ((⟨d.worm, [d.cir.getD j default]⟩ : Dvd).cuts T).2])) [] := Cuts_c ⟨d.worm, [d.cir.getD j default]⟩ T (by simp)
   rw [hone, dv_Ix] at hcu
   simp only [f2, f3, g1, Int.toNat_natCast, List.length_map, getD_map, dv_int, ev_mkSl1, DV.strip, dcells_int, RN, qA, qB, qC, qD, qE, qF]
   refine call_d rfl rfl hcu ?_
   simp only [n55, f6, RN, qA, qB, qC, qD, qE, qF]
   exact up_take 2 0 () f1 rfl trivial (by simp) (by simp) rfl rfl
  ·simp only [Int.lt_irrefl, RN, qA, qB, qC, qD, qE, qF]
   refine call_d rfl rfl hkn ?_
   simp only [RN, qA, qB, qC, qD, qE, qF]
 | some x =>
  obtain ⟨i, hi, rfl, hcan, hno⟩ := cutGo_some d.cir 0 hfi
  have hhc := hcs _ (getD_mem hi)
  obtain ⟨q, u, v, hix, huv, u0, u6, v0, vh, uh0, hq1, htq, hn7, hn1⟩ := round_fact hw hhc ht1.1 hcan
  rw [Nat.zero_add] at hfi
  rw [hfi] at e1
  simp only [hix] at e1
  have hone := one_cut hok hi ht
  rw [hcan, if_pos rfl, hix] at hone
  have hcu : Pure C F.plate_Cuts [.agg [.int .i64 d.worm, .slice false [.int .i64 (d.cir.getD i default)]], .int .i64 T] (.d (.tup [((⟨d.worm, [d.cir.getD i default]⟩ : Dvd).cuts T).1.dv, .int .i64 ((⟨d.worm, [d.cir.getD i default]⟩ : Dvd).cuts T).2])) [] := Cuts_c ⟨d.worm, [d.cir.getD i default]⟩ T (by simp)
  rw [hone, dv_Ix] at hcu
  generalize hhe : d.cir.getD i default = h at *
  have i0 : (0 : Int) ≤ (i : Int) := by omega
  have c1 : ¬ (i : Int) < 0 := by omega
  have c2 : ¬ (i : Int) ≥ (d.cir.length : Int) := by omega
  have c3 : ¬ u < 0 := by omega
  have c4 : ¬ u > 60 := by omega
  have c5 : ¬ v < 0 := by omega
  have c6 : ¬ v ≥ h := by omega
  have wn : IntKind.i64.wrap (d.worm * h) = d.worm * h := w64_in (by omega)
  have nz : d.worm * h ≠ 0 := by omega
  simp only [e1, n0, y0, bb2, Option.isSome_some, List.length_map, i0, c1, c2, c3, c4, c5, c6, hi, getD_map, hhe, dv_int, Int.toNat_natCast, List.not_mem_nil, ev_mkSl1, DV.strip, dcells_int, RN, qA, qB, qC, qD, qE, qF]
  refine call_d rfl rfl hcu ?_
  simp only [n0, ev_ixF, i0, hi, getD_map, hhe, dv_int, Int.toNat_natCast, List.length_map, wn, List.not_mem_nil, RN, qA, qB, qC, qD, qE, qF]
  refine pwp_range T (fun k (_ : Unit) => ⟨[(1, .d (.int .i64 T)), (2, .d (.cptr [.int .i64 d.worm, .slice false (d.cir.map intDV)])), (5, .d (.cptr [.int .i64 i, .int .i64 u, .int .i64 v])), (9, .d (.int .i64 i)), (12, .d (.int .i64 (d.worm * h))), (13, .d (.int .i64 ((k : Int) * q))), (14, .d (.int .i64 ((k : Int) + 1)))], ⟨[some [.d (.int .i64 d.worm), .d (.slice false (d.cir.map intDV))], some [.d (.int .i64 i), .d (.int .i64 u), .d (.int .i64 v)], some [.d (.int .i64 0), .d (.int .i64 u), .d (.int .i64 v)]], [2, 1, 0], []⟩⟩)
   (fun _ _ => True) 0 () (Nat.zero_le _) (by simp) trivial (fun k _ k1 _ => ?_) (fun _ _ => ?_)
  ·have k2 : (k : Int) + 1 ≤ (T : Int) := by omega
   have k3 := Int.mul_le_mul_of_nonneg_right k2 (show 0 ≤ q by omega)
   rw [Int.add_mul, Int.one_mul, htq] at k3
   have k4 : 0 ≤ (k : Int) * q := Int.mul_nonneg (by omega) (by omega)
   have w1 : IntKind.i64.wrap (u * h) = u * h := w64_in (by omega)
   have w2 : IntKind.i64.wrap ((k : Int) * q + u * h) = (k : Int) * q + u * h := w64_in (by omega)
   have w3 : IntKind.i64.wrap ((k : Int) * q + u * h + v) = ((k + 1 : Nat) : Int) * q := by
    rw [w64_in (by omega)]
    have : ((k + 1 : Nat) : Int) * q = (k : Int) * q + q := by rw [Int.natCast_add, Int.add_mul]; simp
    omega
   have w4 : IntKind.i64.wrap ((k : Int) + 1 + 1) = ((k + 1 : Nat) : Int) + 1 := by rw [w64_in (by omega)]; omega
   have ek : ((k + 1 : Nat) : Int) * q = (k : Int) * q + q := by rw [Int.natCast_add, Int.add_mul]; simp
   by_cases hlt : (k : Int) + 1 < (T : Int)
   ·have hm : ((((k + 1 : Nat) : Int) * q).tmod (d.worm * h) == 0) = false := by
     refine beq_eq_false_iff_ne.2 ?_
     have k5 := Int.mul_lt_mul_of_pos_right hlt (show 0 < q by omega)
     rw [Int.add_mul, Int.one_mul, htq] at k5
     rw [Int.tmod_eq_of_lt (by omega) (by omega)]
     omega
    simp only [k2, i0, hi, getD_map, hhe, dv_int, Int.toNat_natCast, List.length_map, w1, w2, w3, w4, hlt, nz, hm, List.not_mem_nil, RN, qA, qB, qC, qD, qE, qF]
    exact up_same () k1 rfl trivial (by simp) (by simp) rfl rfl
   ·simp only [k2, i0, hi, getD_map, hhe, dv_int, Int.toNat_natCast, List.length_map, w1, w2, w3, w4, hlt, List.not_mem_nil, RN, qA, qB, qC, qD, qE, qF]
    exact up_same () k1 rfl trivial (by simp) (by simp) rfl rfl
  ·have k2 : ¬ ((T : Int) + 1 ≤ (T : Int)) := by omega
   have k3 : ((T : Int) * q != d.worm * h) = false := by rw [htq, bne, beq_self_eq_true]; rfl
   simp only [k2, k3, RN, qA, qB, qC, qD, qE, qF]
   refine pwp_range i (fun j (_ : Unit) => ⟨[(1, .d (.int .i64 T)), (2, .d (.cptr [.int .i64 d.worm, .slice false (d.cir.map intDV)])), (9, .d (.int .i64 i)), (15, .d (.int .i64 j))], ⟨[some [.d (.int .i64 d.worm), .d (.slice false (d.cir.map intDV))], some [.d (.int .i64 i), .d (.int .i64 u), .d (.int .i64 v)], some [.d (.int .i64 0), .d (.int .i64 u), .d (.int .i64 v)]], [2, 1, 0], []⟩⟩)
    (fun _ _ => True) 0 () (Nat.zero_le _) rfl trivial (fun j _ f1 _ => ?_) (fun _ _ => ?_)
   ·have g1 : j < d.cir.length := by omega
    obtain ⟨f2, f3, f6⟩ := rng f1 (by omega)
    have hone := one_cut hok g1 ht
    rw [if_neg (by rw [hno j (by omega)]; decide)] at hone
    have hcu : Pure C F.plate_Cuts [.agg [.int .i64 d.worm, .slice false [.int .i64 (d.cir.getD j default)]], .int .i64 T] (.d (.tup [((⟨d.worm, [d.cir.getD j default]⟩ : Dvd).cuts T).1.dv, .int .i64 ((⟨d.worm, [d.cir.getD j default]⟩ : Dvd).cuts T).2])) [] := Cuts_c ⟨d.worm, [d.cir.getD j default]⟩ T (by simp)
    rw [hone, dv_Ix] at hcu
    simp only [f2, f3, g1, Int.toNat_natCast, List.length_map, getD_map, dv_int, ev_mkSl1, DV.strip, dcells_int, RN, qA, qB, qC, qD, qE, qF]
    refine call_d rfl rfl hcu ?_
    simp only [n55, f6, RN, qA, qB, qC, qD, qE, qF]
    exact up_take 3 0 () f1 rfl trivial (by simp) (by simp) rfl rfl
   ·simp only [Int.lt_irrefl, RN, qA, qB, qC, qD, qE, qF]
    refine call_d rfl rfl hkn ?_
    simp only [RN, qA, qB, qC, qD, qE, qF]
end Go.Tel
