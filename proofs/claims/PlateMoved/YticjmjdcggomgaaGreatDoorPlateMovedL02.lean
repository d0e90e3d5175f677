/-
  Part 2 of the proof of a law of plates, the law itself: an abstract machine over the model, contracts of functions, plain laws.
  Conditions: none.
-/
import Derived.Test.YticjmjdcggomgaaGreatDoorPlateMovedL01
set_option linter.all false
namespace Go.Tel
end Go.Tel
open Nat renaming reduceBEq → qA, reduceAdd → qB, reduceSub → qC, reduceEqDiff → qD, reduceLT → qE, reduceLeDiff → qF
namespace Go.Tel
open Go.Am
theorem cellsEq_pt (x y : Pt) : cellsEq [1, 1] [.int .i64 x.x, .int .i64 x.y] [.int .i64 y.x, .int .i64 y.y] = some (decide (x = y)) := by
 obtain ⟨a, b⟩ := x
 obtain ⟨c, d⟩ := y
 by_cases h1 : a = c <;> by_cases h2 : b = d <;> simp [cellsEq, h1, h2]
theorem cellsEq_ms (x y : Ms) : cellsEq [1, 1] [.int .i64 x.a, .int .i64 x.b] [.int .i64 y.a, .int .i64 y.b] = some (decide (x = y)) := by
 obtain ⟨a, b⟩ := x
 obtain ⟨c, d⟩ := y
 by_cases h1 : a = c <;> by_cases h2 : b = d <;> simp [cellsEq, h1, h2]
set_option maxRecDepth 10000 in
set_option maxHeartbeats 4000000 in
theorem rPiece_c (p : Piece) (hc : p.cs.length ≤ 1000) (hw : p.ws.length ≤ 1000) (hm : p.ms.length ≤ 1000) : Pure C F.ref_Piece [p.dv] (.d (.bool p.ok)) [] := by
 refine pure_of_pwp_d mixed rfl ok_ref_Piece ?_
 simp only [pc_ref_Piece, rs_ref_Piece, dv_Piece, RN, qA, qB, qC, qD, qE, qF]
 by_cases hh : p.headOk = true
 case neg =>
  have hok : p.ok = false := by simp [Piece.ok, hh]
  rw [hok]
  repeat' first
   | (refine call_d rfl rfl (rin_c _ _ _) ?_; try simp only [RN, qA, qB, qC, qD, qE, qF])
   | (refine guard_split (by rfl) (fun hB => ?_) (fun hB => ?_) <;> simp only [hB, RN, qA, qB, qC, qD, qE, qF])
   | (refine cond_split (by rfl) (fun hB => ?_) (fun hB => ?_) <;> simp only [hB, RN, qA, qB, qC, qD, qE, qF])
  all_goals (first | rfl | (exfalso; simp_all [Piece.headOk]; done))
 have hh' := hh
 simp only [Piece.headOk, Bool.and_eq_true] at hh'
 obtain ⟨⟨⟨⟨a1, a2⟩, a3⟩, a4⟩, a5⟩ := hh'
 refine call_d rfl rfl (rin_c _ _ _) ?_
 simp only [a1, RN, qA, qB, qC, qD, qE, qF]
 refine call_d rfl rfl (rin_c _ _ _) ?_
 simp only [a2, RN, qA, qB, qC, qD, qE, qF]
 refine call_d rfl rfl (rin_c _ _ _) ?_
 simp only [a3, RN, qA, qB, qC, qD, qE, qF]
 refine call_d rfl rfl (rin_c _ _ _) ?_
 simp only [a4, RN, qA, qB, qC, qD, qE, qF]
 refine call_d rfl rfl (rin_c _ _ _) ?_
 simp only [a5, List.length_map, RN, qA, qB, qC, qD, qE, qF]
 refine call_d rfl rfl (rin_c _ _ _) ?_
 by_cases l1 : inR p.cs.length 1 6 = true
 case neg =>
  have l1' : inR p.cs.length 1 6 = false := by simpa using l1
  simp only [l1', RN, qA, qB, qC, qD, qE, qF]
  simp [Piece.ok, Piece.lensOk, l1']
 by_cases l2 : p.ws.length ≤ 8
 case neg =>
  have b2 : (p.ws.length : Int) > 8 := by omega
  simp only [l1, b2, List.length_map, RN, qA, qB, qC, qD, qE, qF]
  simp [Piece.ok, Piece.lensOk, l1, b2]
 have b2 : ¬ (p.ws.length : Int) > 8 := by omega
 by_cases l3 : p.ms.length ≤ 10
 case neg =>
  have b3 : (p.ms.length : Int) > 10 := by omega
  simp only [l1, b2, b3, List.length_map, RN, qA, qB, qC, qD, qE, qF]
  simp [Piece.ok, Piece.lensOk, l1, b2, b3]
 have b3 : ¬ (p.ms.length : Int) > 10 := by omega
 simp only [l1, b2, b3, List.length_map, RN, qA, qB, qC, qD, qE, qF]
 have hlens : p.lensOk = true := by simp [Piece.lensOk, l1, b2, b3]
 have hok : p.ok = (ptsOk p.w p.h [] p.cs && mssOk p.ws.length [] p.ms && p.ws.all (whOk p.cs.length)) := by simp [Piece.ok, hh, hlens]
 rw [hok]
 refine pwp_range p.cs.length (fun i (_ : Unit) => ⟨[(1, .d (.cptr p.cells)), (3, .d (.int .i64 i))], ⟨[some (p.cells.map .d)], [0], []⟩⟩)
  (fun i _ => ptsOk p.w p.h [] p.cs = ptsOk p.w p.h (p.cs.take i) (p.cs.drop i)) 0 () (Nat.zero_le _) rfl (by simp) (fun i _ g1 hix => ?_) (fun _ hix => ?_)
 ·obtain ⟨g2, g3, g6⟩ := rng g1 (by omega)
  rw [drop_cons g1, ptsOk, ← take_snoc g1] at hix
  simp only [Piece.cells, g2, g3, g1, getD_map, Int.toNat_natCast, List.length_map, dv_Pt, List.not_mem_nil, RN, qA, qB, qC, qD, qE, qF]
  have hci : p.cs.getD i default = p.cs.getD i default := rfl
  generalize hcg : p.cs.getD i default = c at *
  refine call_d rfl rfl (rin_c _ _ _) ?_
  by_cases x1 : inR c.x 0 p.w = true
  case neg =>
   have x1' : inR c.x 0 p.w = false := by simpa using x1
   simp only [x1', RN, qA, qB, qC, qD, qE, qF]
   simp [hix, x1']
  simp only [x1, RN, qA, qB, qC, qD, qE, qF]
  refine call_d rfl rfl (rin_c _ _ _) ?_
  by_cases x2 : inR c.y 0 p.h = true
  case neg =>
   have x2' : inR c.y 0 p.h = false := by simpa using x2
   simp only [x2', RN, qA, qB, qC, qD, qE, qF]
   simp [hix, x2']
  simp only [x2, RN, qA, qB, qC, qD, qE, qF]
  rw [x1, x2, Bool.true_and, Bool.true_and] at hix
  refine pwp_range i (fun k (_ : Unit) => ⟨[(1, .d (.cptr p.cells)), (3, .d (.int .i64 i)), (4, .d (.cptr [.int .i64 c.x, .int .i64 c.y])), (5, .d (.int .i64 k))], ⟨[some (p.cells.map .d), some [.d (.int .i64 c.x), .d (.int .i64 c.y)]], [1, 0], []⟩⟩)
   (fun k _ => c ∉ p.cs.take k) 0 () (Nat.zero_le _) rfl (by simp) (fun k _ e1 hk => ?_) (fun _ hk => ?_)
  ·obtain ⟨e2, e3, e6⟩ := rng e1 (by omega)
   have e1' : k < p.cs.length := by omega
   simp only [Piece.cells, e2, e3, e1', getD_map, Int.toNat_natCast, List.length_map, dv_Pt, RN, qA, qB, qC, qD, qE, qF]
   rw [ev_binA (cellsEq_pt _ _)]
   by_cases he : p.cs.getD k default = c
   ·rw [decide_eq_true he]
    have hx : (true != false) = true := rfl
    have hmem : c ∈ p.cs.take i := by
     rw [← he, List.getD_eq_getElem?_getD, List.getElem?_eq_getElem e1']
     exact List.mem_take_iff_getElem.2 ⟨k, by omega, rfl⟩
    simp only [hx, RN, qA, qB, qC, qD, qE, qF]
    simp [hix, hmem]
   ·rw [decide_eq_false he]
    have hx : (false != false) = false := rfl
    simp only [hx, e6, RN, qA, qB, qC, qD, qE, qF]
    exact up_same () e1 rfl (by rw [take_snoc e1']; simp only [List.mem_append, List.mem_singleton, not_or]; exact ⟨hk, fun h => he h.symm⟩) (by simp) (by simp) rfl rfl
  ·have hcn : (p.cs.take i).contains c = false := by simpa using hk
   rw [hcn, Bool.not_false, Bool.true_and] at hix
   simp only [Int.lt_irrefl, g6, RN, qA, qB, qC, qD, qE, qF]
   exact up_take 1 0 () g1 rfl hix (by simp) (by simp) rfl rfl
 ·rw [List.drop_length, ptsOk] at hix
  simp only [Piece.cells, Int.lt_irrefl, List.length_map, RN, qA, qB, qC, qD, qE, qF]
  rw [hix, Bool.true_and]
  refine pwp_range p.ws.length (fun i (_ : Unit) => ⟨[(1, .d (.cptr p.cells)), (6, .d (.int .i64 i))], ⟨[some (p.cells.map .d)], [0], []⟩⟩)
   (fun i _ => p.ws.all (whOk p.cs.length) = (p.ws.drop i).all (whOk p.cs.length)) 0 () (Nat.zero_le _) rfl (by simp) (fun i _ g1 hjx => ?_) (fun _ hjx => ?_)
  ·obtain ⟨g2, g3, g6⟩ := rng g1 (by omega)
   have wl : IntKind.i64.wrap ((p.cs.length : Int) - 1) = (p.cs.length : Int) - 1 := w64_in (by omega)
   rw [drop_cons g1, List.all_cons] at hjx
   simp only [Piece.cells, g2, g3, g1, getD_map, Int.toNat_natCast, List.length_map, dv_Wh, List.not_mem_nil, wl, RN, qA, qB, qC, qD, qE, qF]
   generalize p.ws.getD i default = w at *
   refine call_d rfl rfl (rin_c _ _ _) ?_
   by_cases x1 : inR w.centre 0 ((p.cs.length : Int) - 1) = true
   case neg =>
    have x1' := eq_false_of_ne_true x1
    simp only [x1', RN, qA, qB, qC, qD, qE, qF]
    simp [hjx, whOk, x1']
   simp only [x1, RN, qA, qB, qC, qD, qE, qF]
   refine call_d rfl rfl (rin_c _ _ _) ?_
   by_cases x2 : inR w.sleeve 0 2 = true
   case neg =>
    have x2' := eq_false_of_ne_true x2
    simp only [x2', RN, qA, qB, qC, qD, qE, qF]
    simp [hjx, whOk, x2']
   simp only [x2, RN, qA, qB, qC, qD, qE, qF]
   refine call_d rfl rfl (rin_c _ _ _) ?_
   by_cases x3 : inR w.layer 0 5 = true
   case neg =>
    have x3' := eq_false_of_ne_true x3
    simp only [x3', RN, qA, qB, qC, qD, qE, qF]
    simp [hjx, whOk, x3']
   simp only [x3, RN, qA, qB, qC, qD, qE, qF]
   refine call_d rfl rfl (rin_c _ _ _) ?_
   by_cases x4 : inR w.teeth 4 50 = true
   case neg =>
    have x4' := eq_false_of_ne_true x4
    simp only [x4', RN, qA, qB, qC, qD, qE, qF]
    simp [hjx, whOk, x4']
   simp only [x4, g6, RN, qA, qB, qC, qD, qE, qF]
   exact up_take 1 0 () g1 rfl (by rw [hjx]; simp [whOk, x1, x2, x3, x4]) (by simp) (by simp) rfl rfl
  rw [List.drop_length, List.all_nil] at hjx
  rw [hjx, Bool.and_true]
  simp only [Piece.cells, Int.lt_irrefl, List.length_map, RN, qA, qB, qC, qD, qE, qF]
  refine pwp_range p.ms.length (fun i (_ : Unit) => ⟨[(1, .d (.cptr p.cells)), (8, .d (.int .i64 i))], ⟨[some (p.cells.map .d)], [0], []⟩⟩)
   (fun i _ => mssOk p.ws.length [] p.ms = mssOk p.ws.length (p.ms.take i) (p.ms.drop i)) 0 () (Nat.zero_le _) rfl (by simp) (fun i _ g1 hkx => ?_) (fun _ hkx => ?_)
  ·obtain ⟨g2, g3, g6⟩ := rng g1 (by omega)
   have hwc : ∀ n, Pure C F.ref_Wheel [.agg p.cells, .int .i64 n] (.d (.bool (inR n 0 (p.ws.length - 1)))) [] := fun n => by
    have := rWheel_c p n (by omega)
    rw [dv_Piece] at this
    exact this
   rw [drop_cons g1, mssOk, ← take_snoc g1] at hkx
   simp only [Piece.cells, g2, g3, g1, getD_map, Int.toNat_natCast, List.length_map, dv_Ms, List.not_mem_nil, RN, qA, qB, qC, qD, qE, qF]
   generalize p.ms.getD i default = c at *
   refine call_d rfl rfl (hwc _) ?_
   by_cases x1 : inR c.a 0 ((p.ws.length : Int) - 1) = true
   case neg =>
    have x1' := eq_false_of_ne_true x1
    simp only [x1', RN, qA, qB, qC, qD, qE, qF]
    simp [hkx, x1']
   simp only [x1, RN, qA, qB, qC, qD, qE, qF]
   refine call_d rfl rfl (hwc _) ?_
   by_cases x2 : inR c.b 0 ((p.ws.length : Int) - 1) = true
   case neg =>
    have x2' := eq_false_of_ne_true x2
    simp only [x2', RN, qA, qB, qC, qD, qE, qF]
    simp [hkx, x2']
   by_cases x3 : c.a ≥ c.b
   case pos =>
    simp only [x2, x3, RN, qA, qB, qC, qD, qE, qF]
    rw [hkx, decide_eq_true x3]
    simp
   simp only [x2, x3, RN, qA, qB, qC, qD, qE, qF]
   rw [x1, x2, decide_eq_false x3, Bool.not_false, Bool.true_and, Bool.true_and, Bool.true_and] at hkx
   refine pwp_range i (fun k (_ : Unit) => ⟨[(1, .d (.cptr p.cells)), (8, .d (.int .i64 i)), (9, .d (.cptr [.int .i64 c.a, .int .i64 c.b])), (10, .d (.int .i64 k))], ⟨[some (p.cells.map .d), some [.d (.int .i64 c.a), .d (.int .i64 c.b)]], [1, 0], []⟩⟩)
    (fun k _ => c ∉ p.ms.take k) 0 () (Nat.zero_le _) rfl (by simp) (fun k _ e1 hk => ?_) (fun _ hk => ?_)
   ·obtain ⟨e2, e3, e6⟩ := rng e1 (by omega)
    have e1' : k < p.ms.length := by omega
    simp only [Piece.cells, e2, e3, e1', getD_map, Int.toNat_natCast, List.length_map, dv_Ms, RN, qA, qB, qC, qD, qE, qF]
    rw [ev_binA (cellsEq_ms _ _)]
    by_cases he : p.ms.getD k default = c
    ·rw [decide_eq_true he]
     have hx : (true != false) = true := rfl
     have hmem : c ∈ p.ms.take i := by
      rw [← he, List.getD_eq_getElem?_getD, List.getElem?_eq_getElem e1']
      exact List.mem_take_iff_getElem.2 ⟨k, by omega, rfl⟩
     simp only [hx, RN, qA, qB, qC, qD, qE, qF]
     simp [hkx, hmem]
    ·rw [decide_eq_false he]
     have hx : (false != false) = false := rfl
     simp only [hx, e6, RN, qA, qB, qC, qD, qE, qF]
     exact up_same () e1 rfl (by rw [take_snoc e1']; simp only [List.mem_append, List.mem_singleton, not_or]; exact ⟨hk, fun h => he h.symm⟩) (by simp) (by simp) rfl rfl
   ·have hcn : (p.ms.take i).contains c = false := by simpa using hk
    rw [hcn, Bool.not_false, Bool.true_and] at hkx
    simp only [Int.lt_irrefl, g6, RN, qA, qB, qC, qD, qE, qF]
    exact up_take 1 0 () g1 rfl hkx (by simp) (by simp) rfl rfl
  ·rw [List.drop_length, mssOk] at hkx
   simp only [Piece.cells, Int.lt_irrefl, List.length_map, RN, qA, qB, qC, qD, qE, qF]
   rw [hkx]
end Go.Tel
open Nat renaming reduceBEq → qA, reduceAdd → qB, reduceSub → qC, reduceEqDiff → qD, reduceLT → qE, reduceLeDiff → qF
namespace Go.Tel
open Go.Am
end Go.Tel
namespace Go.Tel
open Go.Am
end Go.Tel
open Nat renaming reduceBEq → qA, reduceAdd → qB, reduceSub → qC, reduceEqDiff → qD, reduceLT → qE, reduceLeDiff → qF
namespace Go.Tel
open Go.Am
end Go.Tel
open Nat renaming reduceBEq → qA, reduceAdd → qB, reduceSub → qC, reduceEqDiff → qD, reduceLT → qE, reduceLeDiff → qF
namespace Go.Tel
open Go.Am
def Piece.meets (p : Piece) (a b : Int) : Int × Int := if p.ok && inR a 0 (p.ws.length - 1) && inR b 0 (p.ws.length - 1) then (p.wrong [] a b, 0) else (0, 2)
set_option maxRecDepth 10000 in
theorem Meets_c (p : Piece) (hc : p.cs.length ≤ 1000) (hw : p.ws.length ≤ 1000) (hm : p.ms.length ≤ 1000) (a b : Int) : Pure C F.plate_Meets [p.dv, .int .i64 a, .int .i64 b] (.d (.tup [.int .i64 (p.meets a b).1, .int .i64 (p.meets a b).2])) [] := by
 have h1 := isPiece_c p hc hw hm
 have h2 := isWheel_c p a (by omega)
 have h3 := isWheel_c p b (by omega)
 have hl := lay_c p [] hm (by simp)
 rw [dv_Piece] at h1 h2 h3 hl
 refine pure_of_pwp_d mixed rfl ok_plate_Meets ?_
 simp only [pc_plate_Meets, rs_plate_Meets, dv_Piece, List.not_mem_nil, RN, qA, qB, qC, qD, qE, qF]
 refine call_d rfl rfl h1 ?_
 cases hok : p.ok
 ·simp only [RN, qA, qB, qC, qD, qE, qF]
  rw [Piece.meets, hok]; rfl
 simp only [RN, qA, qB, qC, qD, qE, qF]
 refine call_d rfl rfl h2 ?_
 cases ha : inR a 0 (p.ws.length - 1)
 ·simp only [RN, qA, qB, qC, qD, qE, qF]
  rw [Piece.meets, hok, ha]; rfl
 simp only [RN, qA, qB, qC, qD, qE, qF]
 refine call_d rfl rfl h3 ?_
 cases hb : inR b 0 (p.ws.length - 1)
 ·simp only [RN, qA, qB, qC, qD, qE, qF]
  rw [Piece.meets, hok, ha, hb]; rfl
 have wa : p.isW a := by simp only [inR, Bool.and_eq_true, decide_eq_true_eq] at ha; exact ⟨by omega, by omega⟩
 have wb : p.isW b := by simp only [inR, Bool.and_eq_true, decide_eq_true_eq] at hb; exact ⟨by omega, by omega⟩
 have hwr : Pure C F.plate_laid_wrong [(p.laid []).dv, .int .i64 a, .int .i64 b] (.d (.int .i64 (p.wrong [] a b))) [] := laid_wrong_c (p.laid []) (Piece.ok_good hok) (Piece.laid_fine p []) (by simp [Piece.laid]) a b wa wb
 simp only [RN, qA, qB, qC, qD, qE, qF]
 refine call_d rfl rfl hl ?_
 rw [dv_Laid] at hwr
 simp only [dv_Laid, RN, qA, qB, qC, qD, qE, qF]
 refine call_d rfl rfl hwr ?_
 simp only [RN, qA, qB, qC, qD, qE, qF]
 rw [Piece.meets, hok, ha, hb]; rfl
end Go.Tel
open Nat renaming reduceBEq → qA, reduceAdd → qB, reduceSub → qC, reduceEqDiff → qD, reduceLT → qE, reduceLeDiff → qF
namespace Go.Am
theorem app_any {sz : Nat} {c : PV} {xs : List DV} {x : DV} {bs : List (Option (List PV))} {fz : List Nat} {ar : List (Option Arr)} {K : PV → Mem → Prop} (h : sl sz c xs ar) (hs : 0 < sz) (hx : x.fits sz = true) (hl : xs.length + 1 ≤ 1073741824)
  (hK : ∀ k ver ar', ar'[k]? = some (some ⟨sz, xs ++ [x], ver, 0⟩) → (∀ j A, ar[j]? = some (some A) → kOf c ≠ some j → ar'[j]? = some (some A) ∧ j ≠ k) → K (.tsl k ver 0) ⟨bs, fz, ar'⟩) : runApp sz false c (.d (.slice true [x])) ⟨bs, fz, ar⟩ K := by
 rcases h with ⟨rfl, rfl⟩ | ⟨k, ver, rfl, hk⟩
 ·simp only [runApp, appd]
  refine ⟨hs, by simpa using hx, by simp, trivial, by simp, by simpa using hl, ?_⟩
  refine hK _ _ _ (by simp) fun j A hj _ => ?_
  have hlt : j < ar.length := (List.getElem?_eq_some_iff.1 hj).1
  exact ⟨by rw [List.getElem?_append_left hlt]; exact hj, by omega⟩
 ·simp only [runApp, appd, row_m, hk, if_true]
  refine ⟨hs, by simpa using hx, by simp, trivial, by decide, by simpa using hl, ?_⟩
  have hlt : k < ar.length := (List.getElem?_eq_some_iff.1 hk).1
  refine hK _ _ _ (by simp [hlt]) fun j A hj hne => ?_
  have hkj : k ≠ j := fun e => hne (by rw [e]; rfl)
  exact ⟨by rw [List.getElem?_set_ne hkj]; exact hj, fun e => hkj e.symm⟩
theorem len_rel {sz : Nat} {c : PV} {xs : List DV} {bs : List (Option (List PV))} {fz : List Nat} {ar : List (Option Arr)} {K : Int → Prop} (h : sl sz c xs ar) : runLen c ⟨bs, fz, ar⟩ K = K xs.length := by
 rcases h with ⟨rfl, rfl⟩ | ⟨k, ver, rfl, hk⟩
 ·rfl
 ·simp [runLen, row_m, hk]
theorem one_sl {sz : Nat} {c : PV} {xs : List DV} {ar : List (Option Arr)} (h : sl sz c xs ar) : PV.one c = true ∧ PV.cells c = [c] ∧ c.isDead = false := by
 rcases h with ⟨rfl, rfl⟩ | ⟨k, ver, rfl, hk⟩ <;> exact ⟨rfl, rfl, rfl⟩
theorem sl_keep {sz : Nat} {c : PV} {xs : List DV} {ar ar' : List (Option Arr)} (h : sl sz c xs ar) (hk : ∀ k A, kOf c = some k → ar[k]? = some (some A) → ar'[k]? = some (some A)) : sl sz c xs ar' := by
 rcases h with ⟨rfl, rfl⟩ | ⟨k, ver, rfl, hh⟩
 ·exact .inl ⟨rfl, rfl⟩
 ·exact .inr ⟨k, ver, rfl, hk _ _ rfl hh⟩
theorem upto_sl {sz n : Nat} {c : PV} {xs : List DV} {ar : List (Option Arr)} (h : sl sz c xs ar) : c.upto n ar.length = true := by
 rcases h with ⟨rfl, rfl⟩ | ⟨k, ver, rfl, hk⟩
 ·rfl
 ·simp only [PV.upto, decide_eq_true_eq]; exact (List.getElem?_eq_some_iff.1 hk).1
end Go.Am
namespace Go.Tel
open Go.Am
def left (gone : List Int) (k : Nat) : List Nat := (List.range k).filter fun i => !gone.contains (i : Int)
theorem left_succ (gone : List Int) (k : Nat) : left gone (k + 1) = left gone k ++ (if gone.contains (k : Int) then [] else [k]) := by
 rw [left, List.range_succ, List.filter_append, ← left]
 congr 1
 cases h : gone.contains (k : Int) <;> (rw [List.filter_cons, h]; rfl)
theorem left_len (gone : List Int) (k : Nat) : (left gone k).length ≤ k := by
 have := List.length_filter_le (fun i : Nat => !gone.contains (i : Int)) (List.range k)
 rw [List.length_range] at this
 exact this
structure WoS where
 ver : Nat
 c : PV
 ar : List (Option Arr)
end Go.Tel
namespace Go.Tel
open Go.Am
theorem left_get {gone : List Int} {k : Nat} (hk : gone.contains (k : Int) = false) : ∀ {n : Nat}, k < n → (left gone n)[(left gone k).length]? = some k
 | 0, h => by omega
 | n + 1, h => by
  rw [left_succ]
  by_cases e : k = n
  ·subst e
   rw [hk, List.getElem?_append_right (Nat.le_refl _), Nat.sub_self]; rfl
  ·have ih := left_get hk (n := n) (by omega)
   rw [List.getElem?_append_left (List.getElem?_eq_some_iff.1 ih).1]
   exact ih
theorem pos_le {gone : List Int} {a : Nat} : ∀ {b : Nat}, a ≤ b → (left gone a).length ≤ (left gone b).length
 | 0, h => by rw [show a = 0 by omega]; exact Nat.le_refl _
 | b + 1, h => by
  by_cases e : a = b + 1
  ·rw [e]; exact Nat.le_refl _
  ·rw [left_succ, List.length_append]
   have := pos_le (gone := gone) (a := a) (b := b) (by omega)
   omega
theorem pos_lt {gone : List Int} {a b : Nat} (hk : gone.contains (a : Int) = false) (h : a < b) : (left gone a).length < (left gone b).length := by
 have h1 := pos_le (gone := gone) (a := a + 1) (b := b) h
 rw [left_succ, hk, List.length_append] at h1
 simp only [Bool.false_eq_true, if_false, List.length_cons, List.length_nil] at h1
 omega
theorem pos_inj {gone : List Int} {a b : Nat} (ha : gone.contains (a : Int) = false) (hb : gone.contains (b : Int) = false) (h : (left gone a).length = (left gone b).length) : a = b := by
 rcases Nat.lt_trichotomy a b with h1 | h1 | h1
 ·have := pos_lt ha h1; omega
 ·exact h1
 ·have := pos_lt hb h1; omega
section
variable {p : Piece} {gone : List Int}
end
end Go.Tel
namespace Go.Tel
open Go.Am
def Piece.idle (p : Piece) : List Int := (upTo p.cs.length).filter fun i => !p.ws.any fun w => w.centre == i
def Piece.mcs (p : Piece) (x y : Int) (k : Nat) : List Pt := (left p.idle k).map fun i => ⟨(p.cs.getD i default).x + x, (p.cs.getD i default).y + y⟩
def Piece.mwh (p : Piece) (w : Wh) : Wh := { w with centre := ((left p.idle w.centre.toNat).length : Nat) }
def Piece.mvd (p : Piece) (x y W H : Int) : Piece := { p with w := W, h := H, cs := p.mcs x y p.cs.length, ws := p.ws.map p.mwh }
theorem idle_c {p : Piece} {i : Nat} (h : i < p.cs.length) : p.idle.contains (i : Int) = !p.ws.any fun w => w.centre == (i : Int) := by
 rw [Bool.eq_iff_iff, List.contains_iff_mem, Piece.idle, List.mem_filter]
 constructor
 ·exact fun h => h.2
 ·intro hh
  refine ⟨?_, hh⟩
  rw [upTo, List.mem_map]
  exact ⟨i, List.mem_range.2 h, rfl⟩
section
variable {p : Piece} (hg : p.good)
include hg
theorem used_c {w : Wh} (hw : w ∈ p.ws) : p.idle.contains ((w.centre.toNat : Nat) : Int) = false := by
 obtain ⟨⟨c1, c2⟩, _⟩ := hg.ws w hw
 rw [idle_c c2, Bool.not_eq_false', List.any_eq_true]
 exact ⟨w, hw, beq_iff_eq.2 (by omega)⟩
variable {x y W H : Int}
theorem mvd_wh {a : Nat} (ha : a < p.ws.length) : (p.mvd x y W H).wh a = p.mwh (p.wh a) := by
 have e : (p.mvd x y W H).ws = p.ws.map p.mwh := rfl
 rw [Piece.wh, Piece.wh, e, Int.toNat_natCast, List.getD_eq_getElem?_getD, List.getElem?_map, List.getElem?_eq_getElem ha, List.getD_eq_getElem?_getD, List.getElem?_eq_getElem ha]; rfl
theorem mvd_at {w : Wh} (hw : w ∈ p.ws) : (p.mvd x y W H).cs.getD (p.mwh w).centre.toNat default = ⟨(p.cs.getD w.centre.toNat default).x + x, (p.cs.getD w.centre.toNat default).y + y⟩ := by
 have hu := used_c hg hw
 obtain ⟨⟨c1, c2⟩, _⟩ := hg.ws w hw
 have e : (p.mvd x y W H).cs = p.mcs x y p.cs.length := rfl
 have e2 : (p.mwh w).centre.toNat = (left p.idle w.centre.toNat).length := by rw [Piece.mwh]; exact Int.toNat_natCast _
 rw [e, e2, Piece.mcs, List.getD_eq_getElem?_getD, List.getElem?_map, left_get hu c2]; rfl
theorem mvd_pt {a : Nat} (ha : a < p.ws.length) : (p.mvd x y W H).pt a = ⟨(p.pt a).x + x, (p.pt a).y + y⟩ := by
 rw [Piece.pt, mvd_wh hg ha, mvd_at hg (by rw [Piece.wh]; exact getD_mem (by simpa using ha))]; rfl
theorem mvd_centred {a b : Nat} (ha : a < p.ws.length) (hb : b < p.ws.length) : (p.mvd x y W H).centred a b = p.centred a b := by
 have ma : p.wh a ∈ p.ws := by rw [Piece.wh]; exact getD_mem (by simpa using ha)
 have mb : p.wh b ∈ p.ws := by rw [Piece.wh]; exact getD_mem (by simpa using hb)
 have ua := used_c hg ma
 have ub := used_c hg mb
 obtain ⟨⟨c1, c2⟩, _⟩ := hg.ws _ ma
 obtain ⟨⟨d1, d2⟩, _⟩ := hg.ws _ mb
 rw [Piece.centred, Piece.centred, mvd_wh hg ha, mvd_wh hg hb, Bool.eq_iff_iff, beq_iff_eq, beq_iff_eq]
 simp only [Piece.mwh]
 constructor
 ·intro h
  have := pos_inj ua ub (by omega)
  omega
 ·intro h; rw [h]
theorem mvd_bounds {o : Nat} (ho : o < p.ws.length) : ∀ (l : List Wh) (i : Nat) (r : Int × Int), p.ws.drop i = l → (p.mvd x y W H).bounds [] o i (l.map p.mwh) r = p.bounds [] o i l r
 | [], _, _, _ => rfl
 | w :: l, i, r, h => by
  have hi : i < p.ws.length := by
   refine Nat.lt_of_not_le fun hh => ?_
   rw [List.drop_of_length_le hh] at h
   cases h
  have h2 := drop_cons hi
  rw [h] at h2
  obtain ⟨_, ht⟩ := List.cons.inj h2
  have hs : (p.mvd x y W H).sleeved i o = p.sleeved i o := by
   rw [Piece.sleeved, Piece.sleeved, mvd_centred hg hi ho, mvd_wh hg hi, mvd_wh hg ho]; rfl
  rw [List.map_cons, Piece.bounds, Piece.bounds, mvd_bounds ho l (i + 1) _ ht.symm, hs]
  rfl
theorem mvd_wrong {a b : Nat} (ha : a < p.ws.length) (hb : b < p.ws.length) (hab : a ≠ b) : (p.mvd x y W H).wrong [] a b = p.wrong [] a b := by
 have wa := mvd_wh hg (x := x) (y := y) (W := W) (H := H) ha
 have wb := mvd_wh hg (x := x) (y := y) (W := W) (H := H) hb
 have pa := mvd_pt hg (x := x) (y := y) (W := W) (H := H) ha
 have pb := mvd_pt hg (x := x) (y := y) (W := W) (H := H) hb
 have hc := mvd_centred hg (x := x) (y := y) (W := W) (H := H) ha hb
 have hme : (p.mvd x y W H).mesh a b = p.mesh a b := rfl
 have hle : (p.mvd x y W H).level a b = p.level a b := by rw [Piece.level, Piece.level, wa, wb]; rfl
 have hsu : (p.mvd x y W H).sum a b = p.sum a b := by rw [Piece.sum, Piece.sum, wa, wb]; rfl
 have hfa : (p.mvd x y W H).far a b = p.far a b := by
  rw [Piece.far, Piece.far, pa, pb]
  simp only
  rw [show (p.pt a).x + x - ((p.pt b).x + x) = (p.pt a).x - (p.pt b).x by omega, show (p.pt a).y + y - ((p.pt b).y + y) = (p.pt a).y - (p.pt b).y by omega]
 have hsl : (p.mvd x y W H).sleeved a b = p.sleeved a b := by rw [Piece.sleeved, Piece.sleeved, hc, wa, wb]; rfl
 have e1 : (p.mvd x y W H).apart a b = p.apart a b := by rw [Piece.apart, Piece.apart, hme, hle, hc, hfa, hsu]; rfl
 have e2 : (p.mvd x y W H).touch a b = p.touch a b := by rw [Piece.touch, Piece.touch, hme, hle, hc, hfa, hsu]; rfl
 have e3 : (p.mvd x y W H).same a b = p.same a b := by rw [Piece.same, Piece.same, hc, hle]
 have ly : ∀ w : Wh, (p.mwh w).layer = w.layer := fun _ => rfl
 have sl : ∀ w : Wh, (p.mwh w).sleeve = w.sleeve := fun _ => rfl
 have te : ∀ w : Wh, (p.mwh w).teeth = w.teeth := fun _ => rfl
 have hbo : ∀ (o : Nat) (ho : o < p.ws.length) (r : Int × Int), (p.mvd x y W H).bounds [] o 0 (p.mvd x y W H).ws r = p.bounds [] o 0 p.ws r := fun o ho r => mvd_bounds hg ho p.ws 0 r rfl
 have e4 : (p.mvd x y W H).nested [] a b = p.nested [] a b := by
  rw [Piece.nested, Piece.nested, hc, hsl, hle, wa, wb, sl, sl]
  split
  ·rfl
  ·by_cases h : (p.wh a).sleeve > (p.wh b).sleeve
   ·simp only [if_pos h]
    rw [hbo a ha, wa, wb, ly, ly]
   ·simp only [if_neg h]
    rw [hbo b hb, wa, wb, ly, ly]
 have hfb : (p.mvd x y W H).far b a = p.far b a := by
  rw [Piece.far, Piece.far, pa, pb]
  simp only
  rw [show (p.pt b).x + x - ((p.pt a).x + x) = (p.pt b).x - (p.pt a).x by omega, show (p.pt b).y + y - ((p.pt a).y + y) = (p.pt b).y - (p.pt a).y by omega]
 have e5 : (p.mvd x y W H).posted a b = p.posted a b := by
  rw [Piece.posted, Piece.posted, Piece.post, Piece.post, Piece.post, Piece.post, hc, hfa, hfb, wa, wb, ly, ly, te, te]; rfl
 have hne : ¬ (a : Int) = (b : Int) := by omega
 rw [Piece.wrong, Piece.wrong, if_neg hne, if_neg hne, e1, e2, e3, e4, e5]
theorem mvd_xs : ∀ l : List Wh, (∀ w ∈ l, w ∈ p.ws) → (p.mvd x y W H).xs (l.map p.mwh) = (p.xs l).map (· + x) ∧ (p.mvd x y W H).ys (l.map p.mwh) = (p.ys l).map (· + y)
 | [], _ => ⟨rfl, rfl⟩
 | w :: l, h => by
  obtain ⟨h1, h2⟩ := mvd_xs l fun v hv => h v (List.mem_cons_of_mem _ hv)
  have hc := mvd_at hg (x := x) (y := y) (W := W) (H := H) (h w List.mem_cons_self)
  have hc' : (p.mvd x y W H).ctr (p.mwh w) = ⟨(p.ctr w).x + x, (p.ctr w).y + y⟩ := hc
  have te : (p.mwh w).teeth = w.teeth := rfl
  rw [List.map_cons, Piece.xs, Piece.ys, Piece.xs, Piece.ys, h1, h2, hc', te]
  simp only [List.map_cons]
  refine ⟨?_, ?_⟩
  ·congr 1
   ·omega
   ·congr 1; omega
  ·congr 1
   ·omega
   ·congr 1; omega
omit hg in
theorem fold_add {f : Int → Int → Int} {k : Int} (hf : ∀ a b, f (a + k) (b + k) = f a b + k) : ∀ (l : List Int) (a : Int), (l.map (· + k)).foldl f (a + k) = l.foldl f a + k
 | [], _ => rfl
 | b :: l, a => by rw [List.map_cons, List.foldl_cons, List.foldl_cons, hf, fold_add hf l]
omit hg in
theorem maxL_add {l : List Int} (h : l ≠ []) (k : Int) : maxL (l.map (· + k)) = maxL l + k ∧ minL (l.map (· + k)) = minL l + k := by
 cases l with
 | nil => exact absurd rfl h
 | cons a l =>
  have e : ((a :: l).map (· + k)).getD 0 default = a + k := rfl
  have e2 : (a :: l).getD 0 default = a := rfl
  rw [maxL, maxL, minL, minL, e, e2]
  exact ⟨fold_add (fun a b => by omega) l a, fold_add (fun a b => by omega) l a⟩
theorem mvd_frame (hp : p.ok = true) (hq : (p.mvd x y W H).ok = true) (hn : p.ws.length ≠ 0) : (p.mvd x y W H).frame = p.frame := by
 have hl : (p.mvd x y W H).ws.length = p.ws.length := List.length_map _
 have hxs := mvd_xs hg (x := x) (y := y) (W := W) (H := H) p.ws fun w h => h
 have e : (p.mvd x y W H).ws = p.ws.map p.mwh := rfl
 have n1 : p.xs p.ws ≠ [] := fun h => by have := xs_len p p.ws; rw [h, List.length_nil] at this; omega
 have n2 : p.ys p.ws ≠ [] := fun h => by have := ys_len p p.ws; rw [h, List.length_nil] at this; omega
 obtain ⟨a1, a2⟩ := maxL_add n1 x
 obtain ⟨b1, b2⟩ := maxL_add n2 y
 rw [Piece.frame, Piece.frame, if_pos hp, if_pos hq, if_neg hn, if_neg (by rw [hl]; exact hn), e, hxs.1, hxs.2, a1, a2, b1, b2]
 rw [show maxL (p.xs p.ws) + x - (minL (p.xs p.ws) + x) = maxL (p.xs p.ws) - minL (p.xs p.ws) by omega, show maxL (p.ys p.ws) + y - (minL (p.ys p.ws) + y) = maxL (p.ys p.ws) - minL (p.ys p.ws) by omega]
end
theorem fold_max : ∀ (l : List Int) (a : Int), (a ≤ l.foldl max a ∧ ∀ x ∈ l, x ≤ l.foldl max a) ∧ (l.foldl min a ≤ a ∧ ∀ x ∈ l, l.foldl min a ≤ x)
 | [], a => ⟨⟨Int.le_refl _, fun x h => (by cases h)⟩, ⟨Int.le_refl _, fun x h => (by cases h)⟩⟩
 | b :: l, a => by
  obtain ⟨⟨h1, h2⟩, _⟩ := fold_max l (max a b)
  obtain ⟨_, ⟨h3, h4⟩⟩ := fold_max l (min a b)
  rw [List.foldl_cons, List.foldl_cons]
  refine ⟨⟨by omega, fun x hx => ?_⟩, ⟨by omega, fun x hx => ?_⟩⟩
  ·rcases List.mem_cons.1 hx with rfl | hx
   ·omega
   ·exact h2 x hx
  ·rcases List.mem_cons.1 hx with rfl | hx
   ·omega
   ·exact h4 x hx
theorem maxL_ge {l : List Int} {x : Int} (h : x ∈ l) : x ≤ maxL l ∧ minL l ≤ x := by
 cases l with
 | nil => cases h
 | cons a l =>
  obtain ⟨⟨h1, h2⟩, ⟨h3, h4⟩⟩ := fold_max l a
  have e : maxL (a :: l) = l.foldl max a := rfl
  have e2 : minL (a :: l) = l.foldl min a := rfl
  rw [e, e2]
  rcases List.mem_cons.1 h with rfl | h
  ·exact ⟨h1, h3⟩
  ·exact ⟨h2 x h, h4 x h⟩
theorem mem_xs {p : Piece} : ∀ {l : List Wh} {w : Wh}, w ∈ l → ((p.ctr w).x - w.teeth ∈ p.xs l ∧ (p.ctr w).x + w.teeth ∈ p.xs l) ∧ ((p.ctr w).y - w.teeth ∈ p.ys l ∧ (p.ctr w).y + w.teeth ∈ p.ys l)
 | [], _, h => by cases h
 | v :: l, w, h => by
  rw [Piece.xs, Piece.ys]
  rcases List.mem_cons.1 h with rfl | h
  ·simp
  ·obtain ⟨⟨h1, h2⟩, h3, h4⟩ := mem_xs (p := p) h
   simp [h1, h2, h3, h4]
theorem xs_mem {p : Piece} : ∀ {l : List Wh} {z : Int}, (z ∈ p.xs l → ∃ w ∈ l, z = (p.ctr w).x - w.teeth ∨ z = (p.ctr w).x + w.teeth) ∧ (z ∈ p.ys l → ∃ w ∈ l, z = (p.ctr w).y - w.teeth ∨ z = (p.ctr w).y + w.teeth)
 | [], _ => ⟨fun h => (by cases h), fun h => (by cases h)⟩
 | v :: l, z => by
  obtain ⟨h1, h2⟩ := xs_mem (p := p) (l := l) (z := z)
  rw [Piece.xs, Piece.ys]
  constructor
  ·intro h
   rcases List.mem_cons.1 h with rfl | h
   ·exact ⟨v, List.mem_cons_self, .inl rfl⟩
   rcases List.mem_cons.1 h with rfl | h
   ·exact ⟨v, List.mem_cons_self, .inr rfl⟩
   ·obtain ⟨w, hw, e⟩ := h1 h
    exact ⟨w, List.mem_cons_of_mem _ hw, e⟩
  ·intro h
   rcases List.mem_cons.1 h with rfl | h
   ·exact ⟨v, List.mem_cons_self, .inl rfl⟩
   rcases List.mem_cons.1 h with rfl | h
   ·exact ⟨v, List.mem_cons_self, .inr rfl⟩
   ·obtain ⟨w, hw, e⟩ := h2 h
    exact ⟨w, List.mem_cons_of_mem _ hw, e⟩
def Piece.lows (p : Piece) : List Wh → Int × Int → Int × Int
 | [], q => q
 | w :: l, q => p.lows l (min q.1 ((p.ctr w).x - w.teeth), min q.2 ((p.ctr w).y - w.teeth))
theorem lows_le {p : Piece} : ∀ (l : List Wh) (q : Int × Int), ((p.lows l q).1 ≤ q.1 ∧ (p.lows l q).2 ≤ q.2) ∧ (∀ w ∈ l, (p.lows l q).1 ≤ (p.ctr w).x - w.teeth ∧ (p.lows l q).2 ≤ (p.ctr w).y - w.teeth)
 | [], q => ⟨⟨Int.le_refl _, Int.le_refl _⟩, fun w h => (by cases h)⟩
 | v :: l, q => by
  obtain ⟨⟨h1, h2⟩, h3⟩ := lows_le (p := p) l (min q.1 ((p.ctr v).x - v.teeth), min q.2 ((p.ctr v).y - v.teeth))
  rw [Piece.lows]
  simp only at h1 h2
  refine ⟨⟨by omega, by omega⟩, fun w hw => ?_⟩
  rcases List.mem_cons.1 hw with rfl | hw
  ·exact ⟨by omega, by omega⟩
  ·exact h3 w hw
theorem lows_m1 {p : Piece} : ∀ (l : List Wh) (q : Int × Int), (p.lows l q).1 = q.1 ∨ ∃ w ∈ l, (p.lows l q).1 = (p.ctr w).x - w.teeth
 | [], q => .inl rfl
 | v :: l, q => by
  have h4 := lows_m1 (p := p) l (min q.1 ((p.ctr v).x - v.teeth), min q.2 ((p.ctr v).y - v.teeth))
  rw [Piece.lows]
  simp only at h4
  rcases h4 with h4 | ⟨w, hw, h4⟩
  ·rw [h4]
   by_cases hc : q.1 ≤ (p.ctr v).x - v.teeth
   ·left; omega
   ·right; exact ⟨v, List.mem_cons_self, by omega⟩
  ·right; exact ⟨w, List.mem_cons_of_mem _ hw, h4⟩
theorem lows_m2 {p : Piece} : ∀ (l : List Wh) (q : Int × Int), (p.lows l q).2 = q.2 ∨ ∃ w ∈ l, (p.lows l q).2 = (p.ctr w).y - w.teeth
 | [], q => .inl rfl
 | v :: l, q => by
  have h4 := lows_m2 (p := p) l (min q.1 ((p.ctr v).x - v.teeth), min q.2 ((p.ctr v).y - v.teeth))
  rw [Piece.lows]
  simp only at h4
  rcases h4 with h4 | ⟨w, hw, h4⟩
  ·rw [h4]
   by_cases hc : q.2 ≤ (p.ctr v).y - v.teeth
   ·left; omega
   ·right; exact ⟨v, List.mem_cons_self, by omega⟩
  ·right; exact ⟨w, List.mem_cons_of_mem _ hw, h4⟩
theorem Piece.ok_head {p : Piece} (h : p.ok = true) : (1 ≤ p.w ∧ p.w ≤ 120) ∧ (1 ≤ p.h ∧ p.h ≤ 120) := by
 simp only [Piece.ok, Piece.headOk, inR, Bool.and_eq_true, decide_eq_true_eq, ge_iff_le] at h
 omega
section
variable {p : Piece} (hok : p.ok = true) (hn : p.ws.length ≠ 0)
include hok
theorem ctr_bd {w : Wh} (hw : w ∈ p.ws) : (0 ≤ (p.ctr w).x ∧ (p.ctr w).x ≤ 120) ∧ (0 ≤ (p.ctr w).y ∧ (p.ctr w).y ≤ 120) ∧ 4 ≤ w.teeth ∧ w.teeth ≤ 50 := by
 have hg := Piece.ok_good hok
 obtain ⟨⟨c1, c2⟩, _⟩ := hg.ws w hw
 have hp : ptsOk p.w p.h [] p.cs = true := by
  have h := hok
  simp only [Piece.ok, Bool.and_eq_true] at h
  exact h.1.1.2
 have hb := ptsOk_mem hp _ (getD_mem c2)
 have hh := Piece.ok_head hok
 have ht := Piece.ok_teeth hok w hw
 simp only [Piece.ctr]
 omega
include hn
theorem frame_bd : p.frame = (maxL (p.xs p.ws) - minL (p.xs p.ws), maxL (p.ys p.ws) - minL (p.ys p.ws), 0) ∧ (8 ≤ maxL (p.xs p.ws) - minL (p.xs p.ws) ∧ maxL (p.xs p.ws) - minL (p.xs p.ws) ≤ 360) ∧ (8 ≤ maxL (p.ys p.ws) - minL (p.ys p.ws) ∧ maxL (p.ys p.ws) - minL (p.ys p.ws) ≤ 360) := by
 have hw : p.ws.getD 0 default ∈ p.ws := getD_mem (by omega)
 obtain ⟨⟨m1, m2⟩, m3, m4⟩ := mem_xs (p := p) hw
 have b0 := ctr_bd hok hw
 have n1 : 0 < (p.xs p.ws).length := by rw [xs_len]; omega
 have n2 : 0 < (p.ys p.ws).length := by rw [ys_len]; omega
 obtain ⟨w1, hw1, e1⟩ := xs_mem.1 (maxL_mem _ n1)
 obtain ⟨w2, hw2, e2⟩ := xs_mem.1 (minL_mem _ n1)
 obtain ⟨w3, hw3, e3⟩ := xs_mem.2 (maxL_mem _ n2)
 obtain ⟨w4, hw4, e4⟩ := xs_mem.2 (minL_mem _ n2)
 have b1 := ctr_bd hok hw1
 have b2 := ctr_bd hok hw2
 have b3 := ctr_bd hok hw3
 have b4 := ctr_bd hok hw4
 have g1 := maxL_ge m1
 have g2 := maxL_ge m2
 have g3 := maxL_ge m3
 have g4 := maxL_ge m4
 exact ⟨by rw [Piece.frame, if_pos hok, if_neg hn], by omega, by omega⟩
theorem lows_bd : (-50 ≤ (p.lows p.ws (240, 240)).1 ∧ (p.lows p.ws (240, 240)).1 ≤ 120) ∧ (-50 ≤ (p.lows p.ws (240, 240)).2 ∧ (p.lows p.ws (240, 240)).2 ≤ 120) ∧ minL (p.xs p.ws) ≤ (p.lows p.ws (240, 240)).1 ∧ minL (p.ys p.ws) ≤ (p.lows p.ws (240, 240)).2 := by
 have hw : p.ws.getD 0 default ∈ p.ws := getD_mem (by omega)
 have b0 := ctr_bd hok hw
 have h3 := (lows_le (p := p) p.ws (240, 240)).2 _ hw
 rcases lows_m1 (p := p) p.ws (240, 240) with h4 | ⟨w, hw1, h4⟩
 ·simp only at h4; omega
 rcases lows_m2 (p := p) p.ws (240, 240) with h5 | ⟨v, hw2, h5⟩
 ·simp only at h5; omega
 have b1 := ctr_bd hok hw1
 have b2 := ctr_bd hok hw2
 have g1 := maxL_ge (mem_xs (p := p) hw1).1.1
 have g2 := maxL_ge (mem_xs (p := p) hw2).2.1
 omega
theorem tight_edge {a : Nat} (ha : a < p.ws.length) : (p.mvd (-(p.lows p.ws (240, 240)).1) (-(p.lows p.ws (240, 240)).2) p.frame.1 p.frame.2.1).edged a = false := by
 have hg := Piece.ok_good hok
 obtain ⟨f1, _, _⟩ := frame_bd hok hn
 obtain ⟨_, _, l3, l4⟩ := lows_bd hok hn
 have hw : p.wh a ∈ p.ws := by rw [Piece.wh]; exact getD_mem (by simpa using ha)
 have h3 := (lows_le (p := p) p.ws (240, 240)).2 _ hw
 have g1 := maxL_ge (mem_xs (p := p) hw).1.2
 have g2 := maxL_ge (mem_xs (p := p) hw).2.2
 have te : ∀ w : Wh, (p.mwh w).teeth = w.teeth := fun _ => rfl
 have e0 : p.pt a = p.ctr (p.wh a) := rfl
 rw [Piece.edged, mvd_pt hg ha, mvd_wh hg ha, te, f1, e0]
 have ew : ∀ X Y W H : Int, (p.mvd X Y W H).w = W ∧ (p.mvd X Y W H).h = H := fun _ _ _ _ => ⟨rfl, rfl⟩
 simp only [(ew _ _ _ _).1, (ew _ _ _ _).2, Bool.or_eq_false_iff, decide_eq_false_iff_not]
 omega
theorem edge_frame {x y : Int} (he : ∀ a, a < p.ws.length → (p.mvd x y p.w p.h).edged a = false) : p.frame.1 ≤ p.w ∧ p.frame.2.1 ≤ p.h := by
 have hg := Piece.ok_good hok
 obtain ⟨f1, _, _⟩ := frame_bd hok hn
 have n1 : 0 < (p.xs p.ws).length := by rw [xs_len]; omega
 have n2 : 0 < (p.ys p.ws).length := by rw [ys_len]; omega
 have te : ∀ w : Wh, (p.mwh w).teeth = w.teeth := fun _ => rfl
 have key : ∀ w ∈ p.ws, (0 ≤ (p.ctr w).x + x - w.teeth ∧ (p.ctr w).x + x + w.teeth ≤ p.w) ∧ (0 ≤ (p.ctr w).y + y - w.teeth ∧ (p.ctr w).y + y + w.teeth ≤ p.h) := fun w hw => by
  obtain ⟨a, ha, rfl⟩ := List.getElem_of_mem hw
  have h := he a ha
  have e1 : p.wh a = p.ws[a] := by rw [Piece.wh, Int.toNat_natCast, List.getD_eq_getElem?_getD, List.getElem?_eq_getElem ha]; rfl
  have e0 : p.pt a = p.ctr (p.wh a) := rfl
  rw [Piece.edged, mvd_pt hg ha, mvd_wh hg ha, te, e0, e1] at h
  have ew : ∀ X Y W H : Int, (p.mvd X Y W H).w = W ∧ (p.mvd X Y W H).h = H := fun _ _ _ _ => ⟨rfl, rfl⟩
  simp only [(ew _ _ _ _).1, (ew _ _ _ _).2, Bool.or_eq_false_iff, decide_eq_false_iff_not] at h
  omega
 obtain ⟨w1, hw1, e1⟩ := xs_mem.1 (maxL_mem _ n1)
 obtain ⟨w2, hw2, e2⟩ := xs_mem.1 (minL_mem _ n1)
 obtain ⟨w3, hw3, e3⟩ := xs_mem.2 (maxL_mem _ n2)
 obtain ⟨w4, hw4, e4⟩ := xs_mem.2 (minL_mem _ n2)
 have k1 := key _ hw1
 have k2 := key _ hw2
 have k3 := key _ hw3
 have k4 := key _ hw4
 have b1 := ctr_bd hok hw1
 have b2 := ctr_bd hok hw2
 have b3 := ctr_bd hok hw3
 have b4 := ctr_bd hok hw4
 rw [f1]
 simp only
 omega
end
end Go.Tel
open Nat renaming reduceBEq → qA, reduceAdd → qB, reduceSub → qC, reduceEqDiff → qD, reduceLT → qE, reduceLeDiff → qF
namespace Go.Tel
open Go.Am
def numsC (p : Piece) (k : Nat) : List Int := (List.range k).map fun i => ((left p.idle i).length : Int)
theorem numsC_succ (p : Piece) (k : Nat) : numsC p (k + 1) = numsC p k ++ [((left p.idle k).length : Int)] := by simp [numsC, List.range_succ]
theorem numsC_len (p : Piece) (k : Nat) : (numsC p k).length = k := by simp [numsC]
theorem numsC_get {p : Piece} {n k : Nat} (h : k < n) : (numsC p n).getD k default = ((left p.idle k).length : Int) := by
 rw [numsC, List.getD_eq_getElem?_getD, List.getElem?_map, List.getElem?_range h]; rfl
theorem mcs_len (p : Piece) (x y : Int) (k : Nat) : (p.mcs x y k).length = (left p.idle k).length := by simp [Piece.mcs]
structure MvS where
 ver : Nat
 c : PV
 ar : List (Option Arr)
def Piece.mo (p : Piece) (W H : Int) (c5 c6 : PV) : List (Option (List PV)) :=
 [some (p.cells.map .d), some [.d (.int .i64 0), .d (.int .i64 0), .d (.int .i64 0), .d (.int .i64 0), .d (.int .i64 0), .d (.slice true []), .d (.slice true []), .d (.slice true [])],
  some [.d (.int .i64 W), .d (.int .i64 H), .d (.int .i64 p.pl), .d (.int .i64 p.ga), .d (.int .i64 p.po), c5, c6, .d (.slice false (p.ms.map Ms.dv))]]
set_option maxRecDepth 10000 in
set_option maxHeartbeats 4000000 in
theorem moved_c (p : Piece) (hok : p.ok = true) (x y W H : Int) (hx : -1000 ≤ x ∧ x ≤ 1000) (hy : -1000 ≤ y ∧ y ≤ 1000) :
  Pure C F.law_moved [p.dv, .int .i64 x, .int .i64 y, .int .i64 W, .int .i64 H] (.d (p.mvd x y W H).dv) [] := by
 have hg := Piece.ok_good hok
 have hlen := Piece.ok_lens hok
 refine pure_of_pwp_fs mixed rfl ok_law_moved ?_
 simp only [pc_law_moved, rs_law_moved, dv_Piece, List.not_mem_nil, RN, qA, qB, qC, qD, qE, qF]
 refine pwp_range p.cs.length (fun i (q : MvS) => ⟨[(1, .d (.int .i64 x)), (2, .d (.int .i64 y)), (5, .d (.cptr p.cells)), (10, .ptr 1 0), (11, .ptr 2 0), (12, .tsl 0 q.ver 0), (13, .d (.int .i64 i))], ⟨p.mo W H q.c (.d (.slice true [])), [0], q.ar⟩⟩)
  (fun i q => q.ar[0]? = some (some ⟨1, (numsC p i).map intDV, q.ver, 0⟩) ∧ sl 2 q.c ((p.mcs x y i).map Pt.dv) q.ar ∧ kOf q.c ≠ some 0) 0 ⟨0, .d (.slice true []), [some ⟨1, [], 0, 0⟩]⟩ (Nat.zero_le _) rfl ⟨rfl, .inl ⟨rfl, rfl⟩, by simp [kOf]⟩ (fun i q g1 hix => ?_) (fun q hix => ?_)
 ·obtain ⟨ver, c, ar⟩ := q
  obtain ⟨r1, r2, r3⟩ := hix
  simp only at r1 r2 r3
  obtain ⟨g2, g3, g6⟩ := rng g1 (by omega)
  obtain ⟨o1, o2, o3⟩ := one_sl r2
  have hll := left_len p.idle i
  have hml := mcs_len p x y i
  simp only [Piece.cells, Piece.mo, g2, List.length_map, RN, qA, qB, qC, qD, qE, qF]
  refine pwp_range p.ws.length (fun k (b : Bool) => ⟨[(1, .d (.int .i64 x)), (2, .d (.int .i64 y)), (5, .d (.cptr p.cells)), (10, .ptr 1 0), (11, .ptr 2 0), (12, .tsl 0 ver 0), (13, .d (.int .i64 i)), (14, .d (.bool b)), (15, .d (.int .i64 k))], ⟨p.mo W H c (.d (.slice true [])), [0], ar⟩⟩)
   (fun k b => (p.ws.any fun w => w.centre == (i : Int)) = (b || (p.ws.drop k).any fun w => w.centre == (i : Int))) 0 false (Nat.zero_le _) rfl (by rw [List.drop_zero, Bool.false_or]) (fun k b f1 hkx => ?_) (fun b hkx => ?_)
  ·obtain ⟨f2, f3, f6⟩ := rng f1 (by omega)
   rw [drop_cons f1, List.any_cons] at hkx
   have u5 := upto_sl (n := 3) r2
   have a0 : 0 < ar.length := (List.getElem?_eq_some_iff.1 r1).1
   cases b
   ·simp only [Piece.cells, Piece.mo, f2, f3, f1, getD_map, Int.toNat_natCast, List.length_map, dv_Wh, f6, RN, qA, qB, qC, qD, qE, qF]
    exact up_same ((p.ws.getD k default).centre == (i : Int)) f1 rfl (by rw [hkx, Bool.false_or]) (by simp) (by simp) (by simp [PV.upto, a0]) (by simp [PV.upto, u5])
   ·simp only [Piece.cells, Piece.mo, f2, List.length_map, f6, RN, qA, qB, qC, qD, qE, qF]
    exact up_same true f1 rfl (by rw [hkx, Bool.true_or, Bool.true_or]) (by simp) (by simp) (by simp [PV.upto, a0]) (by simp [PV.upto, u5])
  ·rw [List.drop_length, List.any_nil, Bool.or_false] at hkx
   have hidle := idle_c g1
   rw [hkx] at hidle
   have hr0 : 0 < ar.length := (List.getElem?_eq_some_iff.1 r1).1
   have hset : ∀ A : Arr, (ar.set 0 (some A))[0]? = some (some A) := fun A => by simp [hr0]
   have hoth : ∀ (A : Option Arr) (k : Nat), k ≠ 0 → (ar.set 0 A)[k]? = ar[k]? := fun A k hk => by rw [List.getElem?_set_ne (by omega)]
   have hnum : (numsC p i).map intDV ++ [DV.int .i64 ((left p.idle i).length : Int)] = (numsC p (i + 1)).map intDV := by rw [numsC_succ, List.map_append]; rfl
   have hrel : sl 2 c ((p.mcs x y i).map Pt.dv) (ar.set 0 (some ⟨1, (numsC p (i + 1)).map intDV, ver + 1, 0⟩)) := sl_keep r2 fun k A hk hA => by rw [hoth _ k (fun e => r3 (e ▸ hk))]; exact hA
   cases b
   ·have e2 : p.mcs x y (i + 1) = p.mcs x y i := by rw [Piece.mcs, left_succ, hidle, Bool.not_false, if_pos rfl, List.append_nil]; rfl
    simp only [Piece.cells, Piece.mo, Int.lt_irrefl, List.length_map, len_rel r2, hml, ev_mkSl1, fits_int, forall_eq, DV.strip, dcells_int, r1, RN, qA, qB, qC, qD, qE, qF]
    refine ⟨by simp, by rw [numsC_len]; omega, ?_⟩
    rw [hnum]
    simp only [g6, RN, qA, qB, qC, qD, qE, qF]
    exact up_refl ⟨ver + 1, c, _⟩ g1 rfl ⟨hset _, by rw [e2]; exact hrel, r3⟩
   ·have e2 : p.mcs x y (i + 1) = p.mcs x y i ++ [⟨(p.cs.getD i default).x + x, (p.cs.getD i default).y + y⟩] := by rw [Piece.mcs, left_succ, hidle, Bool.not_true, List.map_append]; rfl
    have hc := hg.cs _ (getD_mem g1)
    have w1 : IntKind.i64.wrap ((p.cs.getD i default).x + x) = (p.cs.getD i default).x + x := w64_in (by omega)
    have w2 : IntKind.i64.wrap ((p.cs.getD i default).y + y) = (p.cs.getD i default).y + y := w64_in (by omega)
    simp only [Piece.cells, Piece.mo, Int.lt_irrefl, List.length_map, len_rel r2, hml, ev_mkSl1, fits_int, forall_eq, DV.strip, dcells_int, r1, RN, qA, qB, qC, qD, qE, qF]
    refine ⟨by simp, by rw [numsC_len]; omega, ?_⟩
    rw [hnum]
    simp only [g3, g1, getD_map, Int.toNat_natCast, List.length_map, dv_Pt, w1, w2, ev_mkSl1, DV.strip, dcells_agg, RN, qA, qB, qC, qD, qE, qF]
    have hpt : (DV.agg [.int .i64 ((p.cs.getD i default).x + x), .int .i64 ((p.cs.getD i default).y + y)]).fits 2 = true := rfl
    refine app_any hrel (by decide) hpt (by rw [List.length_map]; omega) (fun k v ar' h1 h2 => ?_)
    obtain ⟨h3, h4⟩ := h2 0 _ (hset _) r3
    simp only [cells_t, one_t, g6, RN, qA, qB, qC, qD, qE, qF]
    refine up_refl ⟨ver + 1, .tsl k v 0, ar'⟩ g1 rfl ⟨h3, .inr ⟨k, v, rfl, ?_⟩, ?_⟩
    ·rw [h1, e2, List.map_append]; rfl
    ·simp only [kOf, ne_eq, Option.some.injEq]; omega
 ·obtain ⟨ver, c, ar⟩ := q
  obtain ⟨r1, r2, r3⟩ := hix
  simp only at r1 r2 r3
  simp only [Piece.cells, Piece.mo, Int.lt_irrefl, List.length_map, RN, qA, qB, qC, qD, qE, qF]
  refine pwp_range p.ws.length (fun i (q : MvS) => ⟨[(5, .d (.cptr p.cells)), (10, .ptr 1 0), (11, .ptr 2 0), (12, .tsl 0 ver 0), (16, .d (.int .i64 i))], ⟨p.mo W H c q.c, [0], q.ar⟩⟩)
   (fun i q => q.ar[0]? = some (some ⟨1, (numsC p p.cs.length).map intDV, ver, 0⟩) ∧ sl 2 c ((p.mcs x y p.cs.length).map Pt.dv) q.ar ∧ sl 4 q.c (((p.ws.take i).map p.mwh).map Wh.dv) q.ar ∧ kOf q.c ≠ some 0 ∧ dist q.c c) 0 ⟨0, .d (.slice true []), ar⟩ (Nat.zero_le _) rfl ⟨r1, r2, .inl ⟨rfl, rfl⟩, by simp [kOf], fun k h => by cases h⟩ (fun i q g1 hix => ?_) (fun q hix => ?_)
  ·obtain ⟨_, c6, ar7⟩ := q
   obtain ⟨q1, q2, q3, q4, q5⟩ := hix
   simp only at q1 q2 q3 q4 q5
   obtain ⟨g2, g3, g6⟩ := rng g1 (by omega)
   obtain ⟨o4, o5, o6⟩ := one_sl q3
   obtain ⟨⟨c1, c2⟩, _⟩ := hg.ws _ (getD_mem g1)
   have ht : p.ws.take (i + 1) = p.ws.take i ++ [p.ws.getD i default] := by rw [take_snoc g1]
   have nl := numsC_len p p.cs.length
   have ng := numsC_get (p := p) c2
   have a0 : 0 < ar7.length := (List.getElem?_eq_some_iff.1 q1).1
   have htl := List.length_take_le i p.ws
   simp only [Piece.cells, Piece.mo, g2, g3, g1, getD_map, Int.toNat_natCast, List.length_map, dv_Wh, RN, qA, qB, qC, qD, qE, qF]
   generalize p.ws.getD i default = w at *
   simp only [c1, c2, nl, q1, getD_map, dv_int, ng, List.length_map, ev_mkSl1, DV.strip, dcells_agg, RN, qA, qB, qC, qD, qE, qF]
   have hwt : (DV.agg [.int .i64 ((left p.idle w.centre.toNat).length : Int), .int .i64 w.sleeve, .int .i64 w.layer, .int .i64 w.teeth]).fits 4 = true := rfl
   refine app_any q3 (by decide) hwt (by rw [List.length_map, List.length_map]; omega) (fun k v ar' h1 h2 => ?_)
   obtain ⟨h3, h4⟩ := h2 0 _ q1 q4
   have q2' : sl 2 c ((p.mcs x y p.cs.length).map Pt.dv) ar' := sl_keep q2 fun k A hk hA => (h2 k A hA fun e => q5 k e hk).1
   have hd : dist (.tsl k v 0) c := by
    intro k' e1 e2
    simp only [kOf, Option.some.injEq] at e1
    subst e1
    rcases q2 with ⟨rfl, _⟩ | ⟨k2, v2, rfl, hk2⟩
    ·cases e2
    ·cases e2
     exact (h2 _ _ hk2 fun e => q5 _ e rfl).2 rfl
   have q3' : sl 4 (.tsl k v 0) (((p.ws.take (i + 1)).map p.mwh).map Wh.dv) ar' := .inr ⟨k, v, rfl, by rw [h1, ht, List.map_append, List.map_append]; rfl⟩
   have u6' := upto_sl (n := 3) q2'
   have u7' := upto_sl (n := 3) q3'
   have a0' : 0 < ar'.length := (List.getElem?_eq_some_iff.1 h3).1
   have kl := (List.getElem?_eq_some_iff.1 h1).1
   simp only [cells_t, one_t, g6, List.not_mem_nil, RN, qA, qB, qC, qD, qE, qF]
   refine up_take 3 ar'.length ⟨0, .tsl k v 0, ar'⟩ g1 (by simp [Piece.mo, Piece.cells]) ⟨h3, q2', q3', ?_, hd⟩ (by simp) (by simp) (by simp [PV.upto, a0']) (by simp [PV.upto, u6', kl])
   simp only [kOf, ne_eq, Option.some.injEq]; omega
  ·obtain ⟨_, c6, ar7⟩ := q
   obtain ⟨q1, q2, q3, q4, q5⟩ := hix
   simp only at q1 q2 q3 q4 q5
   rw [List.take_length] at q3
   simp only [Piece.mvd]
   simp only [Piece.cells, Piece.mo, Int.lt_irrefl, List.length_map, List.not_mem_nil, RN, qA, qB, qC, qD, qE, qF]
   generalize (p.mcs x y p.cs.length).map Pt.dv = xs6 at *
   generalize (p.ws.map p.mwh).map Wh.dv = xs7 at *
   rcases q2 with ⟨rfl, rfl⟩ | ⟨k, v, rfl, hk⟩ <;> rcases q3 with ⟨rfl, rfl⟩ | ⟨k', v', rfl, hk'⟩
   ·simp only [List.not_mem_nil, RN, qA, qB, qC, qD, qE, qF]
    simp [datum, DV.strip]
   ·simp only [allD_t, Option.map_none, aggO_none, cells_agg, isDead_agg, one_t, cells_t, List.not_mem_nil, RN, qA, qB, qC, qD, qE, qF]
    simp [datum, datum0L, datum0, row_m, hk', DV.strip]
   ·simp only [allD_t, Option.map_none, aggO_none, cells_agg, isDead_agg, one_t, cells_t, List.not_mem_nil, RN, qA, qB, qC, qD, qE, qF]
    simp [datum, datum0L, datum0, row_m, hk, DV.strip]
   ·simp only [allD_t, Option.map_none, aggO_none, cells_agg, isDead_agg, one_t, cells_t, List.not_mem_nil, RN, qA, qB, qC, qD, qE, qF]
    simp [datum, datum0L, datum0, row_m, hk, hk', DV.strip]
end Go.Tel
open Nat renaming reduceBEq → qA, reduceAdd → qB, reduceSub → qC, reduceEqDiff → qD, reduceLT → qE, reduceLeDiff → qF
namespace Go.Tel
open Go.Am
theorem meets_self {p : Piece} (hok : p.ok = true) {a : Nat} (ha : a < p.ws.length) : p.meets a a = (if p.edged a then 1 else 0, 0) := by
 have h1 : inR (a : Int) 0 (p.ws.length - 1) = true := by simp only [inR, Bool.and_eq_true, decide_eq_true_eq]; omega
 rw [Piece.meets, hok, h1, Piece.wrong, if_pos rfl]; rfl
theorem meets_two {p : Piece} (hok : p.ok = true) {a b : Nat} (ha : a < p.ws.length) (hb : b < p.ws.length) : p.meets a b = (p.wrong [] a b, 0) := by
 have h1 : inR (a : Int) 0 (p.ws.length - 1) = true := by simp only [inR, Bool.and_eq_true, decide_eq_true_eq]; omega
 have h2 : inR (b : Int) 0 (p.ws.length - 1) = true := by simp only [inR, Bool.and_eq_true, decide_eq_true_eq]; omega
 rw [Piece.meets, hok, h1, h2]; rfl
set_option maxRecDepth 10000 in
set_option maxHeartbeats 4000000 in
theorem PlateMoved_c (hkn : KnownC) (p : Piece) (x y a b : Int) : Pure Go.Tel.C F.law_PlateMoved [p.dv, .int .i64 x, .int .i64 y, .int .i64 a, .int .i64 b] (.d (.bool true)) [] := by
 have hkn : Pure C F.law_known [] (.d (.bool true)) [] := hkn
 have n0 : ((0 : Int) != 0) = false := rfl
 have hsh := short_c p
 rw [dv_Piece] at hsh
 refine pure_of_pwp_d mixed rfl ok_law_PlateMoved ?_
 simp only [pc_law_PlateMoved, rs_law_PlateMoved, dv_Piece, List.not_mem_nil, RN, qA, qB, qC, qD, qE, qF]
 refine call_d rfl rfl hsh ?_
 cases hs : p.short
 ·simp only [RN, qA, qB, qC, qD, qE, qF]
  refine call_d rfl rfl hkn ?_
  simp only [RN, qA, qB, qC, qD, qE, qF]
 simp only [Piece.short, Bool.and_eq_true, decide_eq_true_eq] at hs
 obtain ⟨⟨s1, s2⟩, s3⟩ := hs
 have h2 := rPiece_c p (by omega) (by omega) (by omega)
 have h3 := fun w => rWheel_c p w (by omega)
 rw [dv_Piece] at h2
 simp only [dv_Piece] at h3
 simp only [RN, qA, qB, qC, qD, qE, qF]
 refine call_d rfl rfl h2 ?_
 cases hok : p.ok
 ·simp only [RN, qA, qB, qC, qD, qE, qF]
  refine call_d rfl rfl hkn ?_
  simp only [RN, qA, qB, qC, qD, qE, qF]
 simp only [RN, qA, qB, qC, qD, qE, qF]
 refine call_d rfl rfl (h3 a) ?_
 cases ha : inR a 0 (p.ws.length - 1)
 ·simp only [RN, qA, qB, qC, qD, qE, qF]
  refine call_d rfl rfl hkn ?_
  simp only [RN, qA, qB, qC, qD, qE, qF]
 simp only [RN, qA, qB, qC, qD, qE, qF]
 refine call_d rfl rfl (h3 b) ?_
 cases hb : inR b 0 (p.ws.length - 1)
 ·simp only [RN, qA, qB, qC, qD, qE, qF]
  refine call_d rfl rfl hkn ?_
  simp only [RN, qA, qB, qC, qD, qE, qF]
 by_cases c1 : x < -120
 ·simp only [c1, RN, qA, qB, qC, qD, qE, qF]
  refine call_d rfl rfl hkn ?_
  simp only [RN, qA, qB, qC, qD, qE, qF]
 by_cases c2 : x > 120
 ·simp only [c1, c2, RN, qA, qB, qC, qD, qE, qF]
  refine call_d rfl rfl hkn ?_
  simp only [RN, qA, qB, qC, qD, qE, qF]
 by_cases c3 : y < -120
 ·simp only [c1, c2, c3, RN, qA, qB, qC, qD, qE, qF]
  refine call_d rfl rfl hkn ?_
  simp only [RN, qA, qB, qC, qD, qE, qF]
 by_cases c4 : y > 120
 ·simp only [c1, c2, c3, c4, RN, qA, qB, qC, qD, qE, qF]
  refine call_d rfl rfl hkn ?_
  simp only [RN, qA, qB, qC, qD, qE, qF]
 simp only [inR, Bool.and_eq_true, decide_eq_true_eq] at ha hb
 obtain ⟨A, rfl⟩ := Int.eq_ofNat_of_zero_le (show 0 ≤ a by omega)
 obtain ⟨B, rfl⟩ := Int.eq_ofNat_of_zero_le (show 0 ≤ b by omega)
 have lA : A < p.ws.length := by omega
 have lB : B < p.ws.length := by omega
 have hn : p.ws.length ≠ 0 := by omega
 have hg := Piece.ok_good hok
 have hlen := Piece.ok_lens hok
 have hhd := Piece.ok_head hok
 obtain ⟨f1, f2, f3⟩ := frame_bd hok hn
 have hlo := lows_bd hok hn
 have hF := Frame_c p (by omega) (by omega) (by omega)
 have htight := fun c (hc : c < p.ws.length) => tight_edge hok hn hc
 have hef := fun (he : ∀ a, a < p.ws.length → (p.mvd x y p.w p.h).edged a = false) => edge_frame hok hn he
 rw [f1] at htight hef
 have hmf := fun (h : (p.mvd x y p.w p.h).ok = true) => mvd_frame hg hok h hn
 rw [f1] at hmf
 rw [f1, dv_Piece] at hF
 generalize hw : maxL (p.xs p.ws) - minL (p.xs p.ws) = w at *
 generalize hh : maxL (p.ys p.ws) - minL (p.ys p.ws) = h at *
 simp only at htight hef
 have d1 : ¬ w < 8 := by omega
 have d2 : ¬ w > 360 := by omega
 have d3 : ¬ h < 8 := by omega
 have d4 : ¬ h > 360 := by omega
 simp only [c1, c2, c3, c4, RN, qA, qB, qC, qD, qE, qF]
 refine call_d rfl rfl hF ?_
 simp only [n0, d1, d2, d3, d4, RN, qA, qB, qC, qD, qE, qF]
 refine pwp_range p.ws.length (fun i (q : Int × Int) => ⟨[(1, .d (.int .i64 x)), (2, .d (.int .i64 y)), (3, .d (.int .i64 A)), (4, .d (.int .i64 B)), (5, .d (.cptr p.cells)), (11, .d (.int .i64 w)), (12, .d (.int .i64 h)), (14, .d (.int .i64 q.1)), (15, .d (.int .i64 q.2)), (16, .d (.int .i64 i))], ⟨[some (p.cells.map .d)], [0], []⟩⟩)
  (fun i q => p.lows p.ws (240, 240) = p.lows (p.ws.drop i) q ∧ (-1000 ≤ q.1 ∧ q.1 ≤ 1000) ∧ (-1000 ≤ q.2 ∧ q.2 ≤ 1000)) 0 (240, 240) (Nat.zero_le _) rfl ⟨rfl, by decide, by decide⟩ (fun i q g1 hix => ?_) (fun q hix => ?_)
 ·obtain ⟨r1, r2, r3⟩ := hix
  obtain ⟨g2, g3, g6⟩ := rng g1 (by omega)
  have hm := getD_mem g1
  rw [drop_cons g1, Piece.lows] at r1
  obtain ⟨⟨e1, e2⟩, t1, t2, _⟩ := hg.ws _ hm
  have hc := hg.cs _ (getD_mem e2)
  have hctr : p.ctr (p.ws.getD i default) = p.cs.getD (p.ws.getD i default).centre.toNat default := rfl
  rw [hctr] at r1
  clear hctr htight hef hmf
  simp only [Piece.cells, g2, g3, g1, getD_map, Int.toNat_natCast, List.length_map, dv_Wh, e1, e2, dv_Pt, List.not_mem_nil, RN, qA, qB, qC, qD, qE, qF]
  generalize p.ws.getD i default = v at *
  generalize p.cs.getD v.centre.toNat default = c at *
  have w1 : IntKind.i64.wrap (c.x - v.teeth) = c.x - v.teeth := w64_in (by omega)
  have w2 : IntKind.i64.wrap (c.y - v.teeth) = c.y - v.teeth := w64_in (by omega)
  simp only [w1, w2, minmax_m, g6, RN, qA, qB, qC, qD, qE, qF]
  exact up_take 1 0 (min q.1 (c.x - v.teeth), min q.2 (c.y - v.teeth)) g1 rfl ⟨r1, by simp only; omega, by simp only; omega⟩ (by simp) (by simp) rfl rfl
 obtain ⟨r1, r2, r3⟩ := hix
 rw [List.drop_length, Piece.lows] at r1
 rw [r1] at hlo htight
 obtain ⟨l1, l2, _⟩ := hlo
 have w1 : IntKind.i64.wrap (0 - q.1) = -q.1 := by rw [w64_in (by omega)]; omega
 have w2 : IntKind.i64.wrap (0 - q.2) = -q.2 := by rw [w64_in (by omega)]; omega
 have hT := moved_c p hok (-q.1) (-q.2) w h (by omega) (by omega)
 have hQ := moved_c p hok x y p.w p.h (by omega) (by omega)
 have lenM : ∀ X Y W H : Int, (p.mvd X Y W H).cs.length ≤ p.cs.length ∧ (p.mvd X Y W H).ws.length = p.ws.length ∧ (p.mvd X Y W H).ms.length = p.ms.length := fun X Y W H =>
  ⟨by show (p.mcs X Y p.cs.length).length ≤ _; rw [mcs_len]; exact left_len _ _, List.length_map _, rfl⟩
 obtain ⟨tl1, tl2, tl3⟩ := lenM (-q.1) (-q.2) w h
 obtain ⟨ql1, ql2, ql3⟩ := lenM x y p.w p.h
 have hqw : (p.mvd x y p.w p.h).w = p.w := rfl
 have hqh : (p.mvd x y p.w p.h).h = p.h := rfl
 have hwr := fun (hne : A ≠ B) => mvd_wrong hg (x := x) (y := y) (W := p.w) (H := p.h) lA lB hne
 generalize p.mvd (-q.1) (-q.2) w h = T at *
 generalize p.mvd x y p.w p.h = Q at *
 clear lenM r1
 have hTP := rPiece_c T (by omega) (by omega) (by omega)
 have hQP := rPiece_c Q (by omega) (by omega) (by omega)
 have hTM := Meets_c T (by omega) (by omega) (by omega)
 have hQM := Meets_c Q (by omega) (by omega) (by omega)
 have hPM := Meets_c p (by omega) (by omega) (by omega) A B
 have hQF := Frame_c Q (by omega) (by omega) (by omega)
 rw [meets_two hok lA lB] at hPM
 rw [dv_Piece] at hT hQ hTP hQP hPM hQF
 rw [dv_Piece] at hT hQ
 simp only [dv_Piece] at hTM hQM
 have qwl : ((Q.ws.length : Nat) : Int) = (p.ws.length : Int) := by rw [ql2]
 simp only [Piece.cells, Int.lt_irrefl, List.length_map, w1, w2, RN, qA, qB, qC, qD, qE, qF]
 refine call_d rfl rfl hT ?_
 simp only [List.not_mem_nil, RN, qA, qB, qC, qD, qE, qF]
 refine call_d rfl rfl hTP ?_
 cases hTok : T.ok
 case' true =>
  simp only [RN, qA, qB, qC, qD, qE, qF]
  refine pwp_range p.ws.length (fun i (_ : Unit) => ⟨[(1, .d (.int .i64 x)), (2, .d (.int .i64 y)), (3, .d (.int .i64 A)), (4, .d (.int .i64 B)), (5, .d (.cptr p.cells)), (11, .d (.int .i64 w)), (12, .d (.int .i64 h)), (18, .d (.cptr T.cells)), (19, .d (.int .i64 i))], ⟨[some (p.cells.map .d), some (T.cells.map .d)], [1, 0], []⟩⟩)
   (fun _ _ => True) 0 () (Nat.zero_le _) rfl trivial (fun i _ g1 _ => ?_) (fun _ _ => ?_)
 case' true.refine_1 =>
  obtain ⟨g2, g3, g6⟩ := rng g1 (by omega)
  have hm := hTM i i
  have e0 : T.meets i i = (0, 0) := by rw [meets_self hTok (by omega), htight i g1]; rfl
  rw [e0] at hm
  simp only [Piece.cells, g2, List.length_map, List.not_mem_nil, RN, qA, qB, qC, qD, qE, qF]
  refine call_d rfl rfl hm ?_
  simp only [n0, g6, RN, qA, qB, qC, qD, qE, qF]
  exact up_same () g1 rfl trivial (by simp) (by simp) rfl rfl
 all_goals
  simp only [Piece.cells, Int.lt_irrefl, List.length_map, List.not_mem_nil, RN, qA, qB, qC, qD, qE, qF]
  refine call_d rfl rfl hQ ?_
  simp only [List.not_mem_nil, RN, qA, qB, qC, qD, qE, qF]
  refine call_d rfl rfl hQP ?_
  cases hQok : Q.ok
  ·simp only [RN, qA, qB, qC, qD, qE, qF]
   refine call_d rfl rfl hkn ?_
   simp only [RN, qA, qB, qC, qD, qE, qF]
  have hqf := hmf hQok
  rw [hqf] at hQF
  have hQM2 := hQM A B
  rw [meets_two hQok (by omega) (by omega)] at hQM2
  have ww : (w != w) = false := bne_self_eq_false _
  have hh' : (h != h) = false := bne_self_eq_false _
  have hcase : ((A : Int) != (B : Int)) = false ∨ (((A : Int) != (B : Int)) = true ∧ (p.wrong [] A B != Q.wrong [] A B) = false) := by
   by_cases e : A = B
   ·left; rw [e]; exact bne_self_eq_false _
   ·right
    exact ⟨bne_iff_ne.2 (by omega), by rw [hwr e]; exact bne_self_eq_false _⟩
  simp only [RN, qA, qB, qC, qD, qE, qF]
  refine call_d rfl rfl hPM ?_
  simp only [List.not_mem_nil, RN, qA, qB, qC, qD, qE, qF]
  refine call_d rfl rfl hQM2 ?_
  simp only [List.not_mem_nil, RN, qA, qB, qC, qD, qE, qF]
  refine call_d rfl rfl hQF ?_
  rcases hcase with hAB | ⟨hAB, hkm⟩
  case' inl => have hkm := n0
  all_goals
   simp only [n0, hAB, hkm, ww, hh', RN, qA, qB, qC, qD, qE, qF]
   refine pwp_range p.ws.length (fun i (e : Bool) => ⟨[(11, .d (.int .i64 w)), (12, .d (.int .i64 h)), (22, .d (.cptr Q.cells)), (30, .d (.bool e)), (31, .d (.int .i64 i))], ⟨[some (p.cells.map .d), some (T.cells.map .d), some (Q.cells.map .d)], [2, 1, 0], []⟩⟩)
    (fun i e => e = false → ∀ c, c < i → Q.edged c = false) 0 false (Nat.zero_le _) rfl (fun _ c hc => by omega) (fun i e g1 hix => ?_) (fun e hix => ?_)
   ·obtain ⟨g2, g3, g6⟩ := rng g1 (by omega)
    have hm := hQM i i
    rw [meets_self hQok (by omega)] at hm
    cases hed : Q.edged i
    ·rw [hed] at hm
     have e1 : ((if false = true then (1 : Int) else 0) == 1) = false := rfl
     simp only [Piece.cells, qwl, g2, List.length_map, List.not_mem_nil, RN, qA, qB, qC, qD, qE, qF]
     refine call_d rfl rfl hm ?_
     cases e
     ·simp only [n0, e1, g6, RN, qA, qB, qC, qD, qE, qF]
      refine up_same false g1 rfl (fun _ c hc => ?_) (by simp) (by simp) rfl rfl
      by_cases hci : c = i
      ·rw [hci]; exact hed
      ·exact hix rfl c (by omega)
     ·simp only [n0, e1, g6, RN, qA, qB, qC, qD, qE, qF]
      exact up_same true g1 rfl (fun hh => by cases hh) (by simp) (by simp) rfl rfl
    ·rw [hed] at hm
     have e1 : ((if true = true then (1 : Int) else 0) == 1) = true := rfl
     simp only [Piece.cells, qwl, g2, List.length_map, List.not_mem_nil, RN, qA, qB, qC, qD, qE, qF]
     refine call_d rfl rfl hm ?_
     cases e
     ·simp only [n0, e1, g6, RN, qA, qB, qC, qD, qE, qF]
      exact up_same true g1 rfl (fun hh => by cases hh) (by simp) (by simp) rfl rfl
     ·simp only [n0, e1, g6, RN, qA, qB, qC, qD, qE, qF]
      exact up_same true g1 rfl (fun hh => by cases hh) (by simp) (by simp) rfl rfl
   ·cases e
    ·obtain ⟨k1, k2⟩ := hef fun c hc => hix rfl c hc
     simp only [Piece.cells, qwl, Int.lt_irrefl, List.length_map, hqw, hqh, k1, k2, RN, qA, qB, qC, qD, qE, qF]
     refine call_d rfl rfl hkn ?_
     simp only [RN, qA, qB, qC, qD, qE, qF]
    ·simp only [Piece.cells, qwl, Int.lt_irrefl, List.length_map, RN, qA, qB, qC, qD, qE, qF]
     refine call_d rfl rfl hkn ?_
     simp only [RN, qA, qB, qC, qD, qE, qF]
end Go.Tel
