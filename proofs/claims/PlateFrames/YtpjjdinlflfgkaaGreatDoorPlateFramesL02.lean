/-
  Part 2 of the proof of a law of plates, the law itself: an abstract machine over the model, contracts of functions, plain laws.
  Conditions: none.
-/
import Derived.Test.YtpjjdinlflfgkaaGreatDoorPlateFramesL01
set_option linter.all false
open Nat renaming reduceBEq → qA, reduceAdd → qB, reduceSub → qC, reduceEqDiff → qD, reduceLT → qE, reduceLeDiff → qF
namespace Go.Tel
open Go.Am
structure Fr where
 l : Int
 r : Int
 lo : Int
 hi : Int
def Piece.rfrStep (p : Piece) (q : Fr) (w : Wh) : Fr :=
 ⟨min q.l ((p.cs.getD w.centre.toNat default).x - w.teeth), max q.r ((p.cs.getD w.centre.toNat default).x + w.teeth), min q.lo ((p.cs.getD w.centre.toNat default).y - w.teeth), max q.hi ((p.cs.getD w.centre.toNat default).y + w.teeth)⟩
def Piece.rfrGo (p : Piece) : List Wh → Fr → Fr
 | [], q => q
 | w :: l, q => p.rfrGo l (p.rfrStep q w)
def Piece.rframe (p : Piece) : Int × Int := ((p.rfrGo p.ws ⟨120, -120, 120, -120⟩).r - (p.rfrGo p.ws ⟨120, -120, 120, -120⟩).l, (p.rfrGo p.ws ⟨120, -120, 120, -120⟩).hi - (p.rfrGo p.ws ⟨120, -120, 120, -120⟩).lo)
theorem minmax_M {a b : Int} : (if b > a then b else a) = max a b := by omega
set_option maxRecDepth 10000 in
set_option maxHeartbeats 2000000 in
theorem rFrame_c (p : Piece) (hg : p.good) (hw : p.ws.length ≤ 1000) : Pure C F.ref_Frame [p.dv] (.d (.tup [.int .i64 p.rframe.1, .int .i64 p.rframe.2])) [] := by
 refine pure_of_pwp_d mixed rfl ok_ref_Frame ?_
 simp only [pc_ref_Frame, rs_ref_Frame, dv_Piece, RN, qA, qB, qC, qD, qE, qF]
 refine pwp_range p.ws.length (fun i (q : Fr) => ⟨[(1, .d (.cptr p.cells)), (4, .d (.int .i64 q.l)), (5, .d (.int .i64 q.r)), (6, .d (.int .i64 q.lo)), (7, .d (.int .i64 q.hi)), (8, .d (.int .i64 i))], ⟨[some (p.cells.map .d)], [0], []⟩⟩)
  (fun i q => p.rfrGo p.ws ⟨120, -120, 120, -120⟩ = p.rfrGo (p.ws.drop i) q ∧ (-2000 ≤ q.l ∧ q.l ≤ 2000) ∧ (-2000 ≤ q.r ∧ q.r ≤ 2000) ∧ (-2000 ≤ q.lo ∧ q.lo ≤ 2000) ∧ (-2000 ≤ q.hi ∧ q.hi ≤ 2000)) 0 ⟨120, -120, 120, -120⟩ (Nat.zero_le _) rfl ⟨rfl, by decide, by decide, by decide, by decide⟩ (fun i q g1 hix => ?_) (fun q hix => ?_)
 ·obtain ⟨r1, b1, b2, b3, b4⟩ := hix
  obtain ⟨g2, g3, g6⟩ := rng g1 (by omega)
  have hm := getD_mem g1
  rw [drop_cons g1, Piece.rfrGo, Piece.rfrStep] at r1
  obtain ⟨⟨c1, c2⟩, t1, t2, _⟩ := hg.ws _ hm
  have hc := hg.cs _ (getD_mem c2)
  simp only [Piece.cells, g2, g3, g1, getD_map, Int.toNat_natCast, List.length_map, dv_Wh, List.not_mem_nil, RN, qA, qB, qC, qD, qE, qF]
  generalize p.ws.getD i default = w at *
  simp only [c1, c2, getD_map, List.length_map, dv_Pt, List.not_mem_nil, RN, qA, qB, qC, qD, qE, qF]
  generalize p.cs.getD w.centre.toNat default = c at *
  have w1 : IntKind.i64.wrap (c.x - w.teeth) = c.x - w.teeth := w64_in (by omega)
  have w2 : IntKind.i64.wrap (c.x + w.teeth) = c.x + w.teeth := w64_in (by omega)
  have w3 : IntKind.i64.wrap (c.y - w.teeth) = c.y - w.teeth := w64_in (by omega)
  have w4 : IntKind.i64.wrap (c.y + w.teeth) = c.y + w.teeth := w64_in (by omega)
  simp only [w1, w2, w3, w4, minmax_m, minmax_M, g6, RN, qA, qB, qC, qD, qE, qF]
  exact up_take 1 0 ⟨min q.l (c.x - w.teeth), max q.r (c.x + w.teeth), min q.lo (c.y - w.teeth), max q.hi (c.y + w.teeth)⟩ g1 rfl ⟨r1, by simp only; omega, by simp only; omega, by simp only; omega, by simp only; omega⟩ (by simp) (by simp) rfl rfl
 ·obtain ⟨r1, b1, b2, b3, b4⟩ := hix
  rw [List.drop_length, Piece.rfrGo] at r1
  have w1 : IntKind.i64.wrap (q.r - q.l) = q.r - q.l := w64_in (by omega)
  have w2 : IntKind.i64.wrap (q.hi - q.lo) = q.hi - q.lo := w64_in (by omega)
  simp only [Piece.cells, Int.lt_irrefl, List.length_map, w1, w2, RN, qA, qB, qC, qD, qE, qF]
  rw [Piece.rframe, r1]
end Go.Tel
open Nat renaming reduceBEq → qA, reduceAdd → qB, reduceSub → qC, reduceEqDiff → qD, reduceLT → qE, reduceLeDiff → qF
namespace Go.Tel
open Go.Am
theorem cellsEq_pt (x y : Pt) : cellsEq [1, 1] [.int .i64 x.x, .int .i64 x.y] [.int .i64 y.x, .int .i64 y.y] = some (decide (x = y)) := by
 obtain ⟨a, b⟩ := x
 obtain ⟨c, d⟩ := y
 by_cases h1 : a = c <;> by_cases h2 : b = d <;> simp [cellsEq, h1, h2]
theorem cellsEq_ms (x y : Ms) : cellsEq [1, 1] [.int .i64 x.a, .int .i64 x.b] [.int .i64 y.a, .int .i64 y.b] = some (decide (x = y)) := by
 obtain ⟨a, b⟩ := x
 obtain ⟨c, d⟩ := y
 by_cases h1 : a = c <;> by_cases h2 : b = d <;> simp [cellsEq, h1, h2]
set_option maxRecDepth 10000 in
set_option maxHeartbeats 4000000 in
theorem rPiece_c (p : Piece) (hc : p.cs.length ≤ 1000) (hw : p.ws.length ≤ 1000) (hm : p.ms.length ≤ 1000) : Pure C F.ref_Piece [p.dv] (.d (.bool p.ok)) [] := by
 refine pure_of_pwp_d mixed rfl ok_ref_Piece ?_
 simp only [pc_ref_Piece, rs_ref_Piece, dv_Piece, RN, qA, qB, qC, qD, qE, qF]
 by_cases hh : p.headOk = true
 case neg =>
  have hok : p.ok = false := by simp [Piece.ok, hh]
  rw [hok]
  repeat' first
   | (refine call_d rfl rfl (rin_c _ _ _) ?_; try simp only [RN, qA, qB, qC, qD, qE, qF])
   | (refine guard_split (by rfl) (fun hB => ?_) (fun hB => ?_) <;> simp only [hB, RN, qA, qB, qC, qD, qE, qF])
   | (refine cond_split (by rfl) (fun hB => ?_) (fun hB => ?_) <;> simp only [hB, RN, qA, qB, qC, qD, qE, qF])
  all_goals (first | rfl | (exfalso; simp_all [Piece.headOk]; done))
 have hh' := hh
 simp only [Piece.headOk, Bool.and_eq_true] at hh'
 obtain ⟨⟨⟨⟨a1, a2⟩, a3⟩, a4⟩, a5⟩ := hh'
 refine call_d rfl rfl (rin_c _ _ _) ?_
 simp only [a1, RN, qA, qB, qC, qD, qE, qF]
 refine call_d rfl rfl (rin_c _ _ _) ?_
 simp only [a2, RN, qA, qB, qC, qD, qE, qF]
 refine call_d rfl rfl (rin_c _ _ _) ?_
 simp only [a3, RN, qA, qB, qC, qD, qE, qF]
 refine call_d rfl rfl (rin_c _ _ _) ?_
 simp only [a4, RN, qA, qB, qC, qD, qE, qF]
 refine call_d rfl rfl (rin_c _ _ _) ?_
 simp only [a5, List.length_map, RN, qA, qB, qC, qD, qE, qF]
 refine call_d rfl rfl (rin_c _ _ _) ?_
 by_cases l1 : inR p.cs.length 1 6 = true
 case neg =>
  have l1' : inR p.cs.length 1 6 = false := by simpa using l1
  simp only [l1', RN, qA, qB, qC, qD, qE, qF]
  simp [Piece.ok, Piece.lensOk, l1']
 by_cases l2 : p.ws.length ≤ 8
 case neg =>
  have b2 : (p.ws.length : Int) > 8 := by omega
  simp only [l1, b2, List.length_map, RN, qA, qB, qC, qD, qE, qF]
  simp [Piece.ok, Piece.lensOk, l1, b2]
 have b2 : ¬ (p.ws.length : Int) > 8 := by omega
 by_cases l3 : p.ms.length ≤ 10
 case neg =>
  have b3 : (p.ms.length : Int) > 10 := by omega
  simp only [l1, b2, b3, List.length_map, RN, qA, qB, qC, qD, qE, qF]
  simp [Piece.ok, Piece.lensOk, l1, b2, b3]
 have b3 : ¬ (p.ms.length : Int) > 10 := by omega
 simp only [l1, b2, b3, List.length_map, RN, qA, qB, qC, qD, qE, qF]
 have hlens : p.lensOk = true := by simp [Piece.lensOk, l1, b2, b3]
 have hok : p.ok = (ptsOk p.w p.h [] p.cs && mssOk p.ws.length [] p.ms && p.ws.all (whOk p.cs.length)) := by simp [Piece.ok, hh, hlens]
 rw [hok]
 refine pwp_range p.cs.length (fun i (_ : Unit) => ⟨[(1, .d (.cptr p.cells)), (3, .d (.int .i64 i))], ⟨[some (p.cells.map .d)], [0], []⟩⟩)
  (fun i _ => ptsOk p.w p.h [] p.cs = ptsOk p.w p.h (p.cs.take i) (p.cs.drop i)) 0 () (Nat.zero_le _) rfl (by simp) (fun i _ g1 hix => ?_) (fun _ hix => ?_)
 ·obtain ⟨g2, g3, g6⟩ := rng g1 (by omega)
  rw [drop_cons g1, ptsOk, ← take_snoc g1] at hix
  simp only [Piece.cells, g2, g3, g1, getD_map, Int.toNat_natCast, List.length_map, dv_Pt, List.not_mem_nil, RN, qA, qB, qC, qD, qE, qF]
  have hci : p.cs.getD i default = p.cs.getD i default := rfl
  generalize hcg : p.cs.getD i default = c at *
  refine call_d rfl rfl (rin_c _ _ _) ?_
  by_cases x1 : inR c.x 0 p.w = true
  case neg =>
   have x1' : inR c.x 0 p.w = false := by simpa using x1
   simp only [x1', RN, qA, qB, qC, qD, qE, qF]
   simp [hix, x1']
  simp only [x1, RN, qA, qB, qC, qD, qE, qF]
  refine call_d rfl rfl (rin_c _ _ _) ?_
  by_cases x2 : inR c.y 0 p.h = true
  case neg =>
   have x2' : inR c.y 0 p.h = false := by simpa using x2
   simp only [x2', RN, qA, qB, qC, qD, qE, qF]
   simp [hix, x2']
  simp only [x2, RN, qA, qB, qC, qD, qE, qF]
  rw [x1, x2, Bool.true_and, Bool.true_and] at hix
  refine pwp_range i (fun k (_ : Unit) => ⟨[(1, .d (.cptr p.cells)), (3, .d (.int .i64 i)), (4, .d (.cptr [.int .i64 c.x, .int .i64 c.y])), (5, .d (.int .i64 k))], ⟨[some (p.cells.map .d), some [.d (.int .i64 c.x), .d (.int .i64 c.y)]], [1, 0], []⟩⟩)
   (fun k _ => c ∉ p.cs.take k) 0 () (Nat.zero_le _) rfl (by simp) (fun k _ e1 hk => ?_) (fun _ hk => ?_)
  ·obtain ⟨e2, e3, e6⟩ := rng e1 (by omega)
   have e1' : k < p.cs.length := by omega
   simp only [Piece.cells, e2, e3, e1', getD_map, Int.toNat_natCast, List.length_map, dv_Pt, RN, qA, qB, qC, qD, qE, qF]
   rw [ev_binA (cellsEq_pt _ _)]
   by_cases he : p.cs.getD k default = c
   ·rw [decide_eq_true he]
    have hx : (true != false) = true := rfl
    have hmem : c ∈ p.cs.take i := by
     rw [← he, List.getD_eq_getElem?_getD, List.getElem?_eq_getElem e1']
     exact List.mem_take_iff_getElem.2 ⟨k, by omega, rfl⟩
    simp only [hx, RN, qA, qB, qC, qD, qE, qF]
    simp [hix, hmem]
   ·rw [decide_eq_false he]
    have hx : (false != false) = false := rfl
    simp only [hx, e6, RN, qA, qB, qC, qD, qE, qF]
    exact up_same () e1 rfl (by rw [take_snoc e1']; simp only [List.mem_append, List.mem_singleton, not_or]; exact ⟨hk, fun h => he h.symm⟩) (by simp) (by simp) rfl rfl
  ·have hcn : (p.cs.take i).contains c = false := by simpa using hk
   rw [hcn, Bool.not_false, Bool.true_and] at hix
   simp only [Int.lt_irrefl, g6, RN, qA, qB, qC, qD, qE, qF]
   exact up_take 1 0 () g1 rfl hix (by simp) (by simp) rfl rfl
 ·rw [List.drop_length, ptsOk] at hix
  simp only [Piece.cells, Int.lt_irrefl, List.length_map, RN, qA, qB, qC, qD, qE, qF]
  rw [hix, Bool.true_and]
  refine pwp_range p.ws.length (fun i (_ : Unit) => ⟨[(1, .d (.cptr p.cells)), (6, .d (.int .i64 i))], ⟨[some (p.cells.map .d)], [0], []⟩⟩)
   (fun i _ => p.ws.all (whOk p.cs.length) = (p.ws.drop i).all (whOk p.cs.length)) 0 () (Nat.zero_le _) rfl (by simp) (fun i _ g1 hjx => ?_) (fun _ hjx => ?_)
  ·obtain ⟨g2, g3, g6⟩ := rng g1 (by omega)
   have wl : IntKind.i64.wrap ((p.cs.length : Int) - 1) = (p.cs.length : Int) - 1 := w64_in (by omega)
   rw [drop_cons g1, List.all_cons] at hjx
   simp only [Piece.cells, g2, g3, g1, getD_map, Int.toNat_natCast, List.length_map, dv_Wh, List.not_mem_nil, wl, RN, qA, qB, qC, qD, qE, qF]
   generalize p.ws.getD i default = w at *
   refine call_d rfl rfl (rin_c _ _ _) ?_
   by_cases x1 : inR w.centre 0 ((p.cs.length : Int) - 1) = true
   case neg =>
    have x1' := eq_false_of_ne_true x1
    simp only [x1', RN, qA, qB, qC, qD, qE, qF]
    simp [hjx, whOk, x1']
   simp only [x1, RN, qA, qB, qC, qD, qE, qF]
   refine call_d rfl rfl (rin_c _ _ _) ?_
   by_cases x2 : inR w.sleeve 0 2 = true
   case neg =>
    have x2' := eq_false_of_ne_true x2
    simp only [x2', RN, qA, qB, qC, qD, qE, qF]
    simp [hjx, whOk, x2']
   simp only [x2, RN, qA, qB, qC, qD, qE, qF]
   refine call_d rfl rfl (rin_c _ _ _) ?_
   by_cases x3 : inR w.layer 0 5 = true
   case neg =>
    have x3' := eq_false_of_ne_true x3
    simp only [x3', RN, qA, qB, qC, qD, qE, qF]
    simp [hjx, whOk, x3']
   simp only [x3, RN, qA, qB, qC, qD, qE, qF]
   refine call_d rfl rfl (rin_c _ _ _) ?_
   by_cases x4 : inR w.teeth 4 50 = true
   case neg =>
    have x4' := eq_false_of_ne_true x4
    simp only [x4', RN, qA, qB, qC, qD, qE, qF]
    simp [hjx, whOk, x4']
   simp only [x4, g6, RN, qA, qB, qC, qD, qE, qF]
   exact up_take 1 0 () g1 rfl (by rw [hjx]; simp [whOk, x1, x2, x3, x4]) (by simp) (by simp) rfl rfl
  rw [List.drop_length, List.all_nil] at hjx
  rw [hjx, Bool.and_true]
  simp only [Piece.cells, Int.lt_irrefl, List.length_map, RN, qA, qB, qC, qD, qE, qF]
  refine pwp_range p.ms.length (fun i (_ : Unit) => ⟨[(1, .d (.cptr p.cells)), (8, .d (.int .i64 i))], ⟨[some (p.cells.map .d)], [0], []⟩⟩)
   (fun i _ => mssOk p.ws.length [] p.ms = mssOk p.ws.length (p.ms.take i) (p.ms.drop i)) 0 () (Nat.zero_le _) rfl (by simp) (fun i _ g1 hkx => ?_) (fun _ hkx => ?_)
  ·obtain ⟨g2, g3, g6⟩ := rng g1 (by omega)
   have hwc : ∀ n, Pure C F.ref_Wheel [.agg p.cells, .int .i64 n] (.d (.bool (inR n 0 (p.ws.length - 1)))) [] := fun n => by
    have := rWheel_c p n (by omega)
    rw [dv_Piece] at this
    exact this
   rw [drop_cons g1, mssOk, ← take_snoc g1] at hkx
   simp only [Piece.cells, g2, g3, g1, getD_map, Int.toNat_natCast, List.length_map, dv_Ms, List.not_mem_nil, RN, qA, qB, qC, qD, qE, qF]
   generalize p.ms.getD i default = c at *
   refine call_d rfl rfl (hwc _) ?_
   by_cases x1 : inR c.a 0 ((p.ws.length : Int) - 1) = true
   case neg =>
    have x1' := eq_false_of_ne_true x1
    simp only [x1', RN, qA, qB, qC, qD, qE, qF]
    simp [hkx, x1']
   simp only [x1, RN, qA, qB, qC, qD, qE, qF]
   refine call_d rfl rfl (hwc _) ?_
   by_cases x2 : inR c.b 0 ((p.ws.length : Int) - 1) = true
   case neg =>
    have x2' := eq_false_of_ne_true x2
    simp only [x2', RN, qA, qB, qC, qD, qE, qF]
    simp [hkx, x2']
   by_cases x3 : c.a ≥ c.b
   case pos =>
    simp only [x2, x3, RN, qA, qB, qC, qD, qE, qF]
    rw [hkx, decide_eq_true x3]
    simp
   simp only [x2, x3, RN, qA, qB, qC, qD, qE, qF]
   rw [x1, x2, decide_eq_false x3, Bool.not_false, Bool.true_and, Bool.true_and, Bool.true_and] at hkx
   refine pwp_range i (fun k (_ : Unit) => ⟨[(1, .d (.cptr p.cells)), (8, .d (.int .i64 i)), (9, .d (.cptr [.int .i64 c.a, .int .i64 c.b])), (10, .d (.int .i64 k))], ⟨[some (p.cells.map .d), some [.d (.int .i64 c.a), .d (.int .i64 c.b)]], [1, 0], []⟩⟩)
    (fun k _ => c ∉ p.ms.take k) 0 () (Nat.zero_le _) rfl (by simp) (fun k _ e1 hk => ?_) (fun _ hk => ?_)
   ·obtain ⟨e2, e3, e6⟩ := rng e1 (by omega)
    have e1' : k < p.ms.length := by omega
    simp only [Piece.cells, e2, e3, e1', getD_map, Int.toNat_natCast, List.length_map, dv_Ms, RN, qA, qB, qC, qD, qE, qF]
    rw [ev_binA (cellsEq_ms _ _)]
    by_cases he : p.ms.getD k default = c
    ·rw [decide_eq_true he]
     have hx : (true != false) = true := rfl
     have hmem : c ∈ p.ms.take i := by
      rw [← he, List.getD_eq_getElem?_getD, List.getElem?_eq_getElem e1']
      exact List.mem_take_iff_getElem.2 ⟨k, by omega, rfl⟩
     simp only [hx, RN, qA, qB, qC, qD, qE, qF]
     simp [hkx, hmem]
    ·rw [decide_eq_false he]
     have hx : (false != false) = false := rfl
     simp only [hx, e6, RN, qA, qB, qC, qD, qE, qF]
     exact up_same () e1 rfl (by rw [take_snoc e1']; simp only [List.mem_append, List.mem_singleton, not_or]; exact ⟨hk, fun h => he h.symm⟩) (by simp) (by simp) rfl rfl
   ·have hcn : (p.ms.take i).contains c = false := by simpa using hk
    rw [hcn, Bool.not_false, Bool.true_and] at hkx
    simp only [Int.lt_irrefl, g6, RN, qA, qB, qC, qD, qE, qF]
    exact up_take 1 0 () g1 rfl hkx (by simp) (by simp) rfl rfl
  ·rw [List.drop_length, mssOk] at hkx
   simp only [Piece.cells, Int.lt_irrefl, List.length_map, RN, qA, qB, qC, qD, qE, qF]
   rw [hkx]
end Go.Tel
open Nat renaming reduceBEq → qA, reduceAdd → qB, reduceSub → qC, reduceEqDiff → qD, reduceLT → qE, reduceLeDiff → qF
namespace Go.Tel
open Go.Am
def FrameLaw : Prop := ∀ p : Piece, p.ok = true → p.ws.length ≠ 0 → p.frame = (p.rframe.1, p.rframe.2, 0)
set_option maxRecDepth 10000 in
set_option maxHeartbeats 2000000 in
theorem PlateFrames_c (hkn : KnownC) (hlaw : FrameLaw) (p : Piece) : Pure Go.Tel.C F.law_PlateFrames [p.dv] (.d (.bool true)) [] := by
 have hkn : Pure C F.law_known [] (.d (.bool true)) [] := hkn
 have y0 : ((0 : Int) == 0) = true := rfl
 have y2 : ((2 : Int) == 2) = true := rfl
 have y5 : ((5 : Int) == 5) = true := rfl
 refine pure_of_pwp_d mixed rfl ok_law_PlateFrames ?_
 simp only [pc_law_PlateFrames, rs_law_PlateFrames, dv_Piece, RN, qA, qB, qC, qD, qE, qF]
 refine call_d rfl rfl (short_c p) ?_
 cases hs : p.short
 ·simp only [RN, qA, qB, qC, qD, qE, qF]
  refine call_d rfl rfl hkn ?_
  simp only [RN, qA, qB, qC, qD, qE, qF]
 have hs' := hs
 simp only [Piece.short, Bool.and_eq_true, decide_eq_true_eq] at hs'
 obtain ⟨⟨s1, s2⟩, s3⟩ := hs'
 simp only [RN, qA, qB, qC, qD, qE, qF]
 refine call_d rfl rfl (Frame_c p (by omega) (by omega) (by omega)) ?_
 simp only [RN, qA, qB, qC, qD, qE, qF]
 refine call_d rfl rfl (rPiece_c p (by omega) (by omega) (by omega)) ?_
 cases hok : p.ok
 ·have hf : p.frame = (0, 0, 2) := by rw [Piece.frame, if_neg (by rw [hok]; decide)]
  simp only [hf, y0, y2, RN, qA, qB, qC, qD, qE, qF]
  refine call_d rfl rfl hkn ?_
  simp only [RN, qA, qB, qC, qD, qE, qF]
 by_cases hz : p.ws.length = 0
 ·have hf : p.frame = (0, 0, 5) := by rw [Piece.frame, if_pos hok, if_pos hz]
  have b1 : ((p.ws.length : Int) == 0) = true := beq_iff_eq.2 (by omega)
  simp only [hf, y0, y5, List.length_map, b1, RN, qA, qB, qC, qD, qE, qF]
  refine call_d rfl rfl hkn ?_
  simp only [RN, qA, qB, qC, qD, qE, qF]
 have b1 : ((p.ws.length : Int) == 0) = false := beq_eq_false_iff_ne.2 (by omega)
 have hf := hlaw p hok hz
 have z1 : (p.rframe.1 == p.rframe.1) = true := beq_self_eq_true _
 have z2 : (p.rframe.2 == p.rframe.2) = true := beq_self_eq_true _
 simp only [hf, List.length_map, b1, RN, qA, qB, qC, qD, qE, qF]
 refine call_d rfl rfl (rFrame_c p (Piece.ok_good hok) (by omega)) ?_
 simp only [y0, z1, z2, RN, qA, qB, qC, qD, qE, qF]
 refine call_d rfl rfl hkn ?_
 simp only [RN, qA, qB, qC, qD, qE, qF]
end Go.Tel
namespace Go.Tel
open Go.Am
theorem rfr_l (p : Piece) : ∀ (l : List Wh) (q : Fr), (∀ w ∈ l, 0 ≤ w.teeth) → (p.rfrGo l q).l = (p.xs l).foldl min q.l ∧ (p.rfrGo l q).r = (p.xs l).foldl max q.r ∧ (p.rfrGo l q).lo = (p.ys l).foldl min q.lo ∧ (p.rfrGo l q).hi = (p.ys l).foldl max q.hi
 | [], q, _ => ⟨rfl, rfl, rfl, rfl⟩
 | w :: l, q, h => by
  have ht := h w List.mem_cons_self
  obtain ⟨h1, h2, h3, h4⟩ := rfr_l p l (p.rfrStep q w) (fun x hx => h x (List.mem_cons_of_mem _ hx))
  rw [Piece.rfrGo, h1, h2, h3, h4]
  simp only [Piece.rfrStep, Piece.xs, Piece.ys, Piece.ctr, List.flatMap_cons, List.foldl_append, List.foldl_cons, List.foldl_nil]
  refine ⟨?_, ?_, ?_, ?_⟩
  ·congr 1; omega
  ·congr 1; omega
  ·congr 1; omega
  ·congr 1; omega
theorem frame_law : FrameLaw := by
 intro p hok hz
 have hg := Piece.ok_good hok
 have ht := Piece.ok_teeth hok
 have hb : (p.w ≤ 120 ∧ p.h ≤ 120) ∧ ptsOk p.w p.h [] p.cs = true := by
  have h := hok
  simp only [Piece.ok, Piece.headOk, inR, Bool.and_eq_true, decide_eq_true_eq, ge_iff_le] at h
  exact ⟨by omega, h.1.1.2⟩
 obtain ⟨w, l, hws⟩ : ∃ w l, p.ws = w :: l := by
  cases h : p.ws with
  | nil => rw [h] at hz; exact absurd rfl hz
  | cons w l => exact ⟨w, l, rfl⟩
 have hwm : w ∈ p.ws := by rw [hws]; exact List.mem_cons_self
 have hc := ptsOk_mem hb.2 _ (getD_mem (hg.ws w hwm).1.2)
 have hwt := ht w hwm
 obtain ⟨h1, h2, h3, h4⟩ := rfr_l p p.ws ⟨120, -120, 120, -120⟩ (fun x hx => by have := ht x hx; omega)
 rw [Piece.frame, if_pos hok, if_neg hz, Piece.rframe, h1, h2, h3, h4, hws]
 simp only [Piece.xs, Piece.ys, Piece.ctr, maxL, minL, List.foldl_cons, List.drop_succ_cons, List.drop_zero, List.getD_cons_zero]
 have m1 : min 120 ((p.cs.getD w.centre.toNat default).x - w.teeth) = (p.cs.getD w.centre.toNat default).x - w.teeth := by omega
 have m2 : max (-120) ((p.cs.getD w.centre.toNat default).x - w.teeth) = (p.cs.getD w.centre.toNat default).x - w.teeth := by omega
 have m3 : min 120 ((p.cs.getD w.centre.toNat default).y - w.teeth) = (p.cs.getD w.centre.toNat default).y - w.teeth := by omega
 have m4 : max (-120) ((p.cs.getD w.centre.toNat default).y - w.teeth) = (p.cs.getD w.centre.toNat default).y - w.teeth := by omega
 rw [m1, m2, m3, m4]
end Go.Tel
