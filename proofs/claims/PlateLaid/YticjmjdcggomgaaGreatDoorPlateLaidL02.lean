/-
  Part 2 of the proof of a law of plates, the law itself: an abstract machine over the model, contracts of functions, plain laws.
  Conditions: none.
-/
import Derived.Test.YticjmjdcggomgaaGreatDoorPlateLaidL01
set_option linter.all false
namespace Go.Tel
theorem minmax_M {a b : Int} : (if b > a then b else a) = max a b := by omega
end Go.Tel
open Nat renaming reduceBEq → qA, reduceAdd → qB, reduceSub → qC, reduceEqDiff → qD, reduceLT → qE, reduceLeDiff → qF
namespace Go.Tel
open Go.Am
theorem cellsEq_pt (x y : Pt) : cellsEq [1, 1] [.int .i64 x.x, .int .i64 x.y] [.int .i64 y.x, .int .i64 y.y] = some (decide (x = y)) := by
 obtain ⟨a, b⟩ := x
 obtain ⟨c, d⟩ := y
 by_cases h1 : a = c <;> by_cases h2 : b = d <;> simp [cellsEq, h1, h2]
theorem cellsEq_ms (x y : Ms) : cellsEq [1, 1] [.int .i64 x.a, .int .i64 x.b] [.int .i64 y.a, .int .i64 y.b] = some (decide (x = y)) := by
 obtain ⟨a, b⟩ := x
 obtain ⟨c, d⟩ := y
 by_cases h1 : a = c <;> by_cases h2 : b = d <;> simp [cellsEq, h1, h2]
set_option maxRecDepth 10000 in
set_option maxHeartbeats 4000000 in
theorem rPiece_c (p : Piece) (hc : p.cs.length ≤ 1000) (hw : p.ws.length ≤ 1000) (hm : p.ms.length ≤ 1000) : Pure C F.ref_Piece [p.dv] (.d (.bool p.ok)) [] := by
 refine pure_of_pwp_d mixed rfl ok_ref_Piece ?_
 simp only [pc_ref_Piece, rs_ref_Piece, dv_Piece, RN, qA, qB, qC, qD, qE, qF]
 by_cases hh : p.headOk = true
 case neg =>
  have hok : p.ok = false := by simp [Piece.ok, hh]
  rw [hok]
  repeat' first
   | (refine call_d rfl rfl (rin_c _ _ _) ?_; try simp only [RN, qA, qB, qC, qD, qE, qF])
   | (refine guard_split (by rfl) (fun hB => ?_) (fun hB => ?_) <;> simp only [hB, RN, qA, qB, qC, qD, qE, qF])
   | (refine cond_split (by rfl) (fun hB => ?_) (fun hB => ?_) <;> simp only [hB, RN, qA, qB, qC, qD, qE, qF])
  all_goals (first | rfl | (exfalso; simp_all [Piece.headOk]; done))
 have hh' := hh
 simp only [Piece.headOk, Bool.and_eq_true] at hh'
 obtain ⟨⟨⟨⟨a1, a2⟩, a3⟩, a4⟩, a5⟩ := hh'
 refine call_d rfl rfl (rin_c _ _ _) ?_
 simp only [a1, RN, qA, qB, qC, qD, qE, qF]
 refine call_d rfl rfl (rin_c _ _ _) ?_
 simp only [a2, RN, qA, qB, qC, qD, qE, qF]
 refine call_d rfl rfl (rin_c _ _ _) ?_
 simp only [a3, RN, qA, qB, qC, qD, qE, qF]
 refine call_d rfl rfl (rin_c _ _ _) ?_
 simp only [a4, RN, qA, qB, qC, qD, qE, qF]
 refine call_d rfl rfl (rin_c _ _ _) ?_
 simp only [a5, List.length_map, RN, qA, qB, qC, qD, qE, qF]
 refine call_d rfl rfl (rin_c _ _ _) ?_
 by_cases l1 : inR p.cs.length 1 6 = true
 case neg =>
  have l1' : inR p.cs.length 1 6 = false := by simpa using l1
  simp only [l1', RN, qA, qB, qC, qD, qE, qF]
  simp [Piece.ok, Piece.lensOk, l1']
 by_cases l2 : p.ws.length ≤ 8
 case neg =>
  have b2 : (p.ws.length : Int) > 8 := by omega
  simp only [l1, b2, List.length_map, RN, qA, qB, qC, qD, qE, qF]
  simp [Piece.ok, Piece.lensOk, l1, b2]
 have b2 : ¬ (p.ws.length : Int) > 8 := by omega
 by_cases l3 : p.ms.length ≤ 10
 case neg =>
  have b3 : (p.ms.length : Int) > 10 := by omega
  simp only [l1, b2, b3, List.length_map, RN, qA, qB, qC, qD, qE, qF]
  simp [Piece.ok, Piece.lensOk, l1, b2, b3]
 have b3 : ¬ (p.ms.length : Int) > 10 := by omega
 simp only [l1, b2, b3, List.length_map, RN, qA, qB, qC, qD, qE, qF]
 have hlens : p.lensOk = true := by simp [Piece.lensOk, l1, b2, b3]
 have hok : p.ok = (ptsOk p.w p.h [] p.cs && mssOk p.ws.length [] p.ms && p.ws.all (whOk p.cs.length)) := by simp [Piece.ok, hh, hlens]
 rw [hok]
 refine pwp_range p.cs.length (fun i (_ : Unit) => ⟨[(1, .d (.cptr p.cells)), (3, .d (.int .i64 i))], ⟨[some (p.cells.map .d)], [0], []⟩⟩)
  (fun i _ => ptsOk p.w p.h [] p.cs = ptsOk p.w p.h (p.cs.take i) (p.cs.drop i)) 0 () (Nat.zero_le _) rfl (by simp) (fun i _ g1 hix => ?_) (fun _ hix => ?_)
 ·obtain ⟨g2, g3, g6⟩ := rng g1 (by omega)
  rw [drop_cons g1, ptsOk, ← take_snoc g1] at hix
  simp only [Piece.cells, g2, g3, g1, getD_map, Int.toNat_natCast, List.length_map, dv_Pt, List.not_mem_nil, RN, qA, qB, qC, qD, qE, qF]
  have hci : p.cs.getD i default = p.cs.getD i default := rfl
  generalize hcg : p.cs.getD i default = c at *
  refine call_d rfl rfl (rin_c _ _ _) ?_
  by_cases x1 : inR c.x 0 p.w = true
  case neg =>
   have x1' : inR c.x 0 p.w = false := by simpa using x1
   simp only [x1', RN, qA, qB, qC, qD, qE, qF]
   simp [hix, x1']
  simp only [x1, RN, qA, qB, qC, qD, qE, qF]
  refine call_d rfl rfl (rin_c _ _ _) ?_
  by_cases x2 : inR c.y 0 p.h = true
  case neg =>
   have x2' : inR c.y 0 p.h = false := by simpa using x2
   simp only [x2', RN, qA, qB, qC, qD, qE, qF]
   simp [hix, x2']
  simp only [x2, RN, qA, qB, qC, qD, qE, qF]
  rw [x1, x2, Bool.true_and, Bool.true_and] at hix
  refine pwp_range i (fun k (_ : Unit) => ⟨[(1, .d (.cptr p.cells)), (3, .d (.int .i64 i)), (4, .d (.cptr [.int .i64 c.x, .int .i64 c.y])), (5, .d (.int .i64 k))], ⟨[some (p.cells.map .d), some [.d (.int .i64 c.x), .d (.int .i64 c.y)]], [1, 0], []⟩⟩)
   (fun k _ => c ∉ p.cs.take k) 0 () (Nat.zero_le _) rfl (by simp) (fun k _ e1 hk => ?_) (fun _ hk => ?_)
  ·obtain ⟨e2, e3, e6⟩ := rng e1 (by omega)
   have e1' : k < p.cs.length := by omega
   simp only [Piece.cells, e2, e3, e1', getD_map, Int.toNat_natCast, List.length_map, dv_Pt, RN, qA, qB, qC, qD, qE, qF]
   rw [ev_binA (cellsEq_pt _ _)]
   by_cases he : p.cs.getD k default = c
   ·rw [decide_eq_true he]
    have hx : (true != false) = true := rfl
    have hmem : c ∈ p.cs.take i := by
     rw [← he, List.getD_eq_getElem?_getD, List.getElem?_eq_getElem e1']
     exact List.mem_take_iff_getElem.2 ⟨k, by omega, rfl⟩
    simp only [hx, RN, qA, qB, qC, qD, qE, qF]
    simp [hix, hmem]
   ·rw [decide_eq_false he]
    have hx : (false != false) = false := rfl
    simp only [hx, e6, RN, qA, qB, qC, qD, qE, qF]
    exact up_same () e1 rfl (by rw [take_snoc e1']; simp only [List.mem_append, List.mem_singleton, not_or]; exact ⟨hk, fun h => he h.symm⟩) (by simp) (by simp) rfl rfl
  ·have hcn : (p.cs.take i).contains c = false := by simpa using hk
   rw [hcn, Bool.not_false, Bool.true_and] at hix
   simp only [Int.lt_irrefl, g6, RN, qA, qB, qC, qD, qE, qF]
   exact up_take 1 0 () g1 rfl hix (by simp) (by simp) rfl rfl
 ·rw [List.drop_length, ptsOk] at hix
  simp only [Piece.cells, Int.lt_irrefl, List.length_map, RN, qA, qB, qC, qD, qE, qF]
  rw [hix, Bool.true_and]
  refine pwp_range p.ws.length (fun i (_ : Unit) => ⟨[(1, .d (.cptr p.cells)), (6, .d (.int .i64 i))], ⟨[some (p.cells.map .d)], [0], []⟩⟩)
   (fun i _ => p.ws.all (whOk p.cs.length) = (p.ws.drop i).all (whOk p.cs.length)) 0 () (Nat.zero_le _) rfl (by simp) (fun i _ g1 hjx => ?_) (fun _ hjx => ?_)
  ·obtain ⟨g2, g3, g6⟩ := rng g1 (by omega)
   have wl : IntKind.i64.wrap ((p.cs.length : Int) - 1) = (p.cs.length : Int) - 1 := w64_in (by omega)
   rw [drop_cons g1, List.all_cons] at hjx
   simp only [Piece.cells, g2, g3, g1, getD_map, Int.toNat_natCast, List.length_map, dv_Wh, List.not_mem_nil, wl, RN, qA, qB, qC, qD, qE, qF]
   generalize p.ws.getD i default = w at *
   refine call_d rfl rfl (rin_c _ _ _) ?_
   by_cases x1 : inR w.centre 0 ((p.cs.length : Int) - 1) = true
   case neg =>
    have x1' := eq_false_of_ne_true x1
    simp only [x1', RN, qA, qB, qC, qD, qE, qF]
    simp [hjx, whOk, x1']
   simp only [x1, RN, qA, qB, qC, qD, qE, qF]
   refine call_d rfl rfl (rin_c _ _ _) ?_
   by_cases x2 : inR w.sleeve 0 2 = true
   case neg =>
    have x2' := eq_false_of_ne_true x2
    simp only [x2', RN, qA, qB, qC, qD, qE, qF]
    simp [hjx, whOk, x2']
   simp only [x2, RN, qA, qB, qC, qD, qE, qF]
   refine call_d rfl rfl (rin_c _ _ _) ?_
   by_cases x3 : inR w.layer 0 5 = true
   case neg =>
    have x3' := eq_false_of_ne_true x3
    simp only [x3', RN, qA, qB, qC, qD, qE, qF]
    simp [hjx, whOk, x3']
   simp only [x3, RN, qA, qB, qC, qD, qE, qF]
   refine call_d rfl rfl (rin_c _ _ _) ?_
   by_cases x4 : inR w.teeth 4 50 = true
   case neg =>
    have x4' := eq_false_of_ne_true x4
    simp only [x4', RN, qA, qB, qC, qD, qE, qF]
    simp [hjx, whOk, x4']
   simp only [x4, g6, RN, qA, qB, qC, qD, qE, qF]
   exact up_take 1 0 () g1 rfl (by rw [hjx]; simp [whOk, x1, x2, x3, x4]) (by simp) (by simp) rfl rfl
  rw [List.drop_length, List.all_nil] at hjx
  rw [hjx, Bool.and_true]
  simp only [Piece.cells, Int.lt_irrefl, List.length_map, RN, qA, qB, qC, qD, qE, qF]
  refine pwp_range p.ms.length (fun i (_ : Unit) => ⟨[(1, .d (.cptr p.cells)), (8, .d (.int .i64 i))], ⟨[some (p.cells.map .d)], [0], []⟩⟩)
   (fun i _ => mssOk p.ws.length [] p.ms = mssOk p.ws.length (p.ms.take i) (p.ms.drop i)) 0 () (Nat.zero_le _) rfl (by simp) (fun i _ g1 hkx => ?_) (fun _ hkx => ?_)
  ·obtain ⟨g2, g3, g6⟩ := rng g1 (by omega)
   have hwc : ∀ n, Pure C F.ref_Wheel [.agg p.cells, .int .i64 n] (.d (.bool (inR n 0 (p.ws.length - 1)))) [] := fun n => by
    have := rWheel_c p n (by omega)
    rw [dv_Piece] at this
    exact this
   rw [drop_cons g1, mssOk, ← take_snoc g1] at hkx
   simp only [Piece.cells, g2, g3, g1, getD_map, Int.toNat_natCast, List.length_map, dv_Ms, List.not_mem_nil, RN, qA, qB, qC, qD, qE, qF]
   generalize p.ms.getD i default = c at *
   refine call_d rfl rfl (hwc _) ?_
   by_cases x1 : inR c.a 0 ((p.ws.length : Int) - 1) = true
   case neg =>
    have x1' := eq_false_of_ne_true x1
    simp only [x1', RN, qA, qB, qC, qD, qE, qF]
    simp [hkx, x1']
   simp only [x1, RN, qA, qB, qC, qD, qE, qF]
   refine call_d rfl rfl (hwc _) ?_
   by_cases x2 : inR c.b 0 ((p.ws.length : Int) - 1) = true
   case neg =>
    have x2' := eq_false_of_ne_true x2
    simp only [x2', RN, qA, qB, qC, qD, qE, qF]
    simp [hkx, x2']
   by_cases x3 : c.a ≥ c.b
   case pos =>
    simp only [x2, x3, RN, qA, qB, qC, qD, qE, qF]
    rw [hkx, decide_eq_true x3]
    simp
   simp only [x2, x3, RN, qA, qB, qC, qD, qE, qF]
   rw [x1, x2, decide_eq_false x3, Bool.not_false, Bool.true_and, Bool.true_and, Bool.true_and] at hkx
   refine pwp_range i (fun k (_ : Unit) => ⟨[(1, .d (.cptr p.cells)), (8, .d (.int .i64 i)), (9, .d (.cptr [.int .i64 c.a, .int .i64 c.b])), (10, .d (.int .i64 k))], ⟨[some (p.cells.map .d), some [.d (.int .i64 c.a), .d (.int .i64 c.b)]], [1, 0], []⟩⟩)
    (fun k _ => c ∉ p.ms.take k) 0 () (Nat.zero_le _) rfl (by simp) (fun k _ e1 hk => ?_) (fun _ hk => ?_)
   ·obtain ⟨e2, e3, e6⟩ := rng e1 (by omega)
    have e1' : k < p.ms.length := by omega
    simp only [Piece.cells, e2, e3, e1', getD_map, Int.toNat_natCast, List.length_map, dv_Ms, RN, qA, qB, qC, qD, qE, qF]
    rw [ev_binA (cellsEq_ms _ _)]
    by_cases he : p.ms.getD k default = c
    ·rw [decide_eq_true he]
     have hx : (true != false) = true := rfl
     have hmem : c ∈ p.ms.take i := by
      rw [← he, List.getD_eq_getElem?_getD, List.getElem?_eq_getElem e1']
      exact List.mem_take_iff_getElem.2 ⟨k, by omega, rfl⟩
     simp only [hx, RN, qA, qB, qC, qD, qE, qF]
     simp [hkx, hmem]
    ·rw [decide_eq_false he]
     have hx : (false != false) = false := rfl
     simp only [hx, e6, RN, qA, qB, qC, qD, qE, qF]
     exact up_same () e1 rfl (by rw [take_snoc e1']; simp only [List.mem_append, List.mem_singleton, not_or]; exact ⟨hk, fun h => he h.symm⟩) (by simp) (by simp) rfl rfl
   ·have hcn : (p.ms.take i).contains c = false := by simpa using hk
    rw [hcn, Bool.not_false, Bool.true_and] at hkx
    simp only [Int.lt_irrefl, g6, RN, qA, qB, qC, qD, qE, qF]
    exact up_take 1 0 () g1 rfl hkx (by simp) (by simp) rfl rfl
  ·rw [List.drop_length, mssOk] at hkx
   simp only [Piece.cells, Int.lt_irrefl, List.length_map, RN, qA, qB, qC, qD, qE, qF]
   rw [hkx]
end Go.Tel
open Nat renaming reduceBEq → qA, reduceAdd → qB, reduceSub → qC, reduceEqDiff → qD, reduceLT → qE, reduceLeDiff → qF
namespace Go.Tel
open Go.Am
def Piece.rmeshed (p : Piece) (a b : Int) : Bool := p.ms.any fun m => (m.a == a && m.b == b) || (m.a == b && m.b == a)
def Piece.rnear (p : Piece) (a b n : Int) : Bool := decide (p.far a b < n * n)
def ptFar (a b : Pt) : Int := (a.x - b.x) * (a.x - b.x) + (a.y - b.y) * (a.y - b.y)
def Pt.inB (a : Pt) : Prop := 0 ≤ a.x ∧ a.x ≤ 1000 ∧ 0 ≤ a.y ∧ a.y ≤ 1000
set_option maxRecDepth 10000 in
theorem rFar_c (a b : Pt) (ha : a.inB) (hb : b.inB) : Pure C F.ref_Far [a.dv, b.dv] (.d (.int .i64 (ptFar a b))) [] := by
 obtain ⟨a1, a2, a3, a4⟩ := ha
 obtain ⟨b1, b2, b3, b4⟩ := hb
 have x := sq_bd (n := a.x - b.x) (k := 1000) (by omega)
 have y := sq_bd (n := a.y - b.y) (k := 1000) (by omega)
 have w1 : IntKind.i64.wrap (a.x - b.x) = a.x - b.x := w64_in (by omega)
 have w2 : IntKind.i64.wrap (a.y - b.y) = a.y - b.y := w64_in (by omega)
 have w3 : IntKind.i64.wrap ((a.x - b.x) * (a.x - b.x)) = (a.x - b.x) * (a.x - b.x) := w64_in (by omega)
 have w4 : IntKind.i64.wrap ((a.y - b.y) * (a.y - b.y)) = (a.y - b.y) * (a.y - b.y) := w64_in (by omega)
 have w5 : IntKind.i64.wrap ((a.x - b.x) * (a.x - b.x) + (a.y - b.y) * (a.y - b.y)) = (a.x - b.x) * (a.x - b.x) + (a.y - b.y) * (a.y - b.y) := w64_in (by omega)
 refine pure_of_pwp_d mixed rfl ok_ref_Far ?_
 simp only [pc_ref_Far, rs_ref_Far, dv_Pt, w1, w2, w3, w4, w5, RN, qA, qB, qC, qD, qE, qF]
 rw [ptFar]
set_option maxRecDepth 10000 in
theorem rfar_c (p : Piece) (hg : p.good) (a b : Int) (ha : p.isW a) (hb : p.isW b) : Pure C F.ref_far [p.dv, .int .i64 a, .int .i64 b] (.d (.int .i64 (p.far a b))) [] := by
 have xa := good_pt hg ha
 have xb := good_pt hg hb
 obtain ⟨⟨a3, a4⟩, _⟩ := good_wh hg ha
 obtain ⟨⟨b3, b4⟩, _⟩ := good_wh hg hb
 obtain ⟨a1, a2⟩ := ha
 obtain ⟨b1, b2⟩ := hb
 have hf := rFar_c (p.cs.getD (p.ws.getD a.toNat default).centre.toNat default) (p.cs.getD (p.ws.getD b.toNat default).centre.toNat default) xa xb
 rw [dv_Pt, dv_Pt] at hf
 refine pure_of_pwp_d mixed rfl ok_ref_far ?_
 simp only [pc_ref_far, rs_ref_far, dv_Piece, dv_Pt, dv_Wh, getD_map, a1, a2, a3, a4, b1, b2, b3, b4, List.length_map, RN, qA, qB, qC, qD, qE, qF]
 refine call_d rfl rfl hf ?_
 simp only [Piece.far, Piece.pt, Piece.wh, sq, ptFar]
set_option maxRecDepth 10000 in
theorem rnear_c (p : Piece) (hg : p.good) (a b : Int) (ha : p.isW a) (hb : p.isW b) (n : Int) (hn : -10000 ≤ n ∧ n ≤ 10000) : Pure C F.ref_near [p.dv, .int .i64 a, .int .i64 b, .int .i64 n] (.d (.bool (p.rnear a b n))) [] := by
 have x := sq_bd (n := n) (k := 10000) (by omega)
 have w1 : IntKind.i64.wrap (n * n) = n * n := w64_in (by omega)
 have hf := rfar_c p hg a b ha hb
 rw [dv_Piece] at hf
 refine pure_of_pwp_d mixed rfl ok_ref_near ?_
 simp only [pc_ref_near, rs_ref_near, dv_Piece, RN, qA, qB, qC, qD, qE, qF]
 refine call_d rfl rfl hf ?_
 simp only [w1, RN, qA, qB, qC, qD, qE, qF]
 rw [Piece.rnear]
set_option maxRecDepth 10000 in
theorem rMeshed_c (p : Piece) (a b : Int) (hl : p.ms.length ≤ 1000) : Pure C F.ref_Meshed [p.dv, .int .i64 a, .int .i64 b] (.d (.bool (p.rmeshed a b))) [] := by
 refine pure_of_pwp_d mixed rfl ok_ref_Meshed ?_
 simp only [pc_ref_Meshed, rs_ref_Meshed, dv_Piece, RN, qA, qB, qC, qD, qE, qF]
 refine pwp_range p.ms.length (fun i (_ : Unit) => ⟨[(1, .d (.int .i64 a)), (2, .d (.int .i64 b)), (3, .d (.cptr p.cells)), (7, .d (.int .i64 i))], ⟨[some (p.cells.map .d)], [0], []⟩⟩)
  (fun i _ => p.rmeshed a b = ((p.ms.drop i).any fun m => (m.a == a && m.b == b) || (m.a == b && m.b == a))) 0 () (Nat.zero_le _) rfl rfl (fun i _ g1 hix => ?_) (fun _ hix => ?_)
 ·obtain ⟨g2, g3, g6⟩ := rng g1 (by omega)
  rw [drop_cons g1, List.any_cons] at hix
  simp only [Piece.cells, g2, g3, g1, getD_map, Int.toNat_natCast, List.length_map, dv_Ms, List.not_mem_nil, RN, qA, qB, qC, qD, qE, qF]
  generalize p.ms.getD i default = m at *
  have key : ∀ t : Bool, t = ((m.a == a && m.b == b) || (m.a == b && m.b == a)) → p.rmeshed a b = (t || ((p.ms.drop (i + 1)).any fun m => (m.a == a && m.b == b) || (m.a == b && m.b == a))) := fun t ht => by rw [hix, ht]
  clear hix
  repeat' first
   | (refine guard_split (by rfl) (fun hB => ?_) (fun hB => ?_) <;> simp only [hB, List.not_mem_nil, g6, RN, qA, qB, qC, qD, qE, qF])
   | (refine cond_split (by rfl) (fun hB => ?_) (fun hB => ?_) <;> simp only [hB, List.not_mem_nil, g6, RN, qA, qB, qC, qD, qE, qF])
  all_goals first
   | (rw [key true (by simp_all)]; rfl)
   | (exact up_take 1 0 () g1 rfl (by rw [key false (by simp_all), Bool.false_or]) (by simp) (by simp) rfl rfl)
 ·rw [List.drop_length, List.any_nil] at hix
  simp only [Piece.cells, Int.lt_irrefl, List.length_map, RN, qA, qB, qC, qD, qE, qF]
  rw [hix]
theorem range_getD {n i : Nat} (h : i < n) : (List.range n).getD i default = i := by
 rw [List.getD_eq_getElem?_getD, List.getElem?_range h]; rfl
end Go.Tel
namespace Go.Tel
open Go.Am
theorem mssOk_lt {n : Int} : ∀ {pre ms : List Ms}, mssOk n pre ms = true → ∀ m ∈ ms, 0 ≤ m.a ∧ m.a < m.b ∧ m.b ≤ n - 1
 | _, [], _, m, h => by cases h
 | pre, x :: ms, h, m, hm => by
  simp only [mssOk, inR, Bool.and_eq_true, decide_eq_true_eq, Bool.not_eq_true', decide_eq_false_iff_not, ge_iff_le] at h
  rcases List.mem_cons.1 hm with rfl | hm
  ·omega
  ·exact mssOk_lt h.2 m hm
theorem ok_mss {p : Piece} (h : p.ok = true) : ∀ m ∈ p.ms, 0 ≤ m.a ∧ m.a < m.b ∧ m.b ≤ p.ws.length - 1 := by
 simp only [Piece.ok, Bool.and_eq_true] at h
 exact mssOk_lt h.1.2
theorem mesh_same {p : Piece} (h : ∀ m ∈ p.ms, m.a < m.b) (a b : Int) : p.mesh a b = p.rmeshed a b := by
 rw [Bool.eq_iff_iff, Piece.mesh, List.contains_iff_mem, Piece.rmeshed, List.any_eq_true]
 constructor
 ·intro hm
  refine ⟨_, hm, ?_⟩
  simp only [Bool.or_eq_true, Bool.and_eq_true, beq_iff_eq]
  omega
 ·rintro ⟨⟨x, y⟩, hm, he⟩
  have := h _ hm
  simp only [Bool.or_eq_true, Bool.and_eq_true, beq_iff_eq] at he this
  have e : (⟨min a b, max a b⟩ : Ms) = ⟨x, y⟩ := by
   rw [Ms.mk.injEq]; omega
  rw [e]; exact hm
theorem far_comm (p : Piece) (a b : Int) : p.far b a = p.far a b := by
 have e : ∀ x y : Int, sq (x - y) = sq (y - x) := fun x y => by
  rw [sq, sq, ← Int.neg_sub y x, Int.neg_mul_neg]
 rw [Piece.far, Piece.far, e (p.pt b).x, e (p.pt b).y]
end Go.Tel
open Nat renaming reduceBEq → qA, reduceAdd → qB, reduceSub → qC, reduceEqDiff → qD, reduceLT → qE, reduceLeDiff → qF
namespace Go.Tel
open Go.Am
end Go.Tel
open Nat renaming reduceBEq → qA, reduceAdd → qB, reduceSub → qC, reduceEqDiff → qD, reduceLT → qE, reduceLeDiff → qF
namespace Go.Tel
open Go.Am
def Piece.meets (p : Piece) (a b : Int) : Int × Int := if p.ok && inR a 0 (p.ws.length - 1) && inR b 0 (p.ws.length - 1) then (p.wrong [] a b, 0) else (0, 2)
set_option maxRecDepth 10000 in
theorem Meets_c (p : Piece) (hc : p.cs.length ≤ 1000) (hw : p.ws.length ≤ 1000) (hm : p.ms.length ≤ 1000) (a b : Int) : Pure C F.plate_Meets [p.dv, .int .i64 a, .int .i64 b] (.d (.tup [.int .i64 (p.meets a b).1, .int .i64 (p.meets a b).2])) [] := by
 have h1 := isPiece_c p hc hw hm
 have h2 := isWheel_c p a (by omega)
 have h3 := isWheel_c p b (by omega)
 have hl := lay_c p [] hm (by simp)
 rw [dv_Piece] at h1 h2 h3 hl
 refine pure_of_pwp_d mixed rfl ok_plate_Meets ?_
 simp only [pc_plate_Meets, rs_plate_Meets, dv_Piece, List.not_mem_nil, RN, qA, qB, qC, qD, qE, qF]
 refine call_d rfl rfl h1 ?_
 cases hok : p.ok
 ·simp only [RN, qA, qB, qC, qD, qE, qF]
  rw [Piece.meets, hok]; rfl
 simp only [RN, qA, qB, qC, qD, qE, qF]
 refine call_d rfl rfl h2 ?_
 cases ha : inR a 0 (p.ws.length - 1)
 ·simp only [RN, qA, qB, qC, qD, qE, qF]
  rw [Piece.meets, hok, ha]; rfl
 simp only [RN, qA, qB, qC, qD, qE, qF]
 refine call_d rfl rfl h3 ?_
 cases hb : inR b 0 (p.ws.length - 1)
 ·simp only [RN, qA, qB, qC, qD, qE, qF]
  rw [Piece.meets, hok, ha, hb]; rfl
 have wa : p.isW a := by simp only [inR, Bool.and_eq_true, decide_eq_true_eq] at ha; exact ⟨by omega, by omega⟩
 have wb : p.isW b := by simp only [inR, Bool.and_eq_true, decide_eq_true_eq] at hb; exact ⟨by omega, by omega⟩
 have hwr : Pure C F.plate_laid_wrong [(p.laid []).dv, .int .i64 a, .int .i64 b] (.d (.int .i64 (p.wrong [] a b))) [] := laid_wrong_c (p.laid []) (Piece.ok_good hok) (Piece.laid_fine p []) (by simp [Piece.laid]) a b wa wb
 simp only [RN, qA, qB, qC, qD, qE, qF]
 refine call_d rfl rfl hl ?_
 rw [dv_Laid] at hwr
 simp only [dv_Laid, RN, qA, qB, qC, qD, qE, qF]
 refine call_d rfl rfl hwr ?_
 simp only [RN, qA, qB, qC, qD, qE, qF]
 rw [Piece.meets, hok, ha, hb]; rfl
end Go.Tel
open Nat renaming reduceBEq → qA, reduceAdd → qB, reduceSub → qC, reduceEqDiff → qD, reduceLT → qE, reduceLeDiff → qF
namespace Go.Tel
open Go.Am
theorem clash_comm (p : Piece) (a b : Int) : p.clash a b = p.clash b a := by
 have h1 : p.mesh a b = p.mesh b a := by rw [Piece.mesh, Piece.mesh, Int.min_comm, Int.max_comm]
 have h2 : p.centred a b = p.centred b a := by
  simp only [Piece.centred]
  rw [Bool.eq_iff_iff, beq_iff_eq, beq_iff_eq]
  exact ⟨Eq.symm, Eq.symm⟩
 rw [Piece.clash, Piece.clash, h1, h2, far_comm p a b, Piece.sum, Piece.sum, Int.add_comm (p.wh a).teeth]
set_option maxRecDepth 10000 in
theorem rClash_c (p : Piece) (hg : p.good) (hms : ∀ m ∈ p.ms, m.a < m.b) (hl : p.ms.length ≤ 1000) (a b : Int) (ha : p.isW a) (hb : p.isW b) : Pure C F.ref_Clash [p.dv, .int .i64 a, .int .i64 b] (.d (.bool (p.clash a b))) [] := by
 obtain ⟨⟨a3, a4⟩, t1, t2, _⟩ := good_wh hg ha
 obtain ⟨⟨b3, b4⟩, t3, t4, _⟩ := good_wh hg hb
 obtain ⟨a1, a2⟩ := id ha
 obtain ⟨b1, b2⟩ := id hb
 have hga := hg.ga
 have hm := rMeshed_c p a b hl
 have w1 : IntKind.i64.wrap ((p.ws.getD a.toNat default).teeth + (p.ws.getD b.toNat default).teeth) = p.sum a b := w64_in (by omega)
 have sb : 0 ≤ p.sum a b ∧ p.sum a b ≤ 2000 := by simp only [Piece.sum, Piece.wh]; omega
 have w3 : IntKind.i64.wrap (p.sum a b + p.ga) = p.sum a b + p.ga := w64_in (by omega)
 have hn := rnear_c p hg a b ha hb (p.sum a b + p.ga) (by omega)
 have e0 : p.clash a b = (!p.rmeshed a b && (p.centred a b || p.rnear a b (p.sum a b + p.ga))) := by rw [Piece.clash, mesh_same hms]; rfl
 rw [dv_Piece] at hm hn
 refine pure_of_pwp_d mixed rfl ok_ref_Clash ?_
 simp only [pc_ref_Clash, rs_ref_Clash, dv_Piece, dv_Wh, getD_map, a1, a2, b1, b2, List.length_map, List.not_mem_nil, RN, qA, qB, qC, qD, qE, qF]
 refine call_d rfl rfl hm ?_
 rw [e0]
 cases p.rmeshed a b
 case true => simp only [Bool.not_true, Bool.false_and, RN, qA, qB, qC, qD, qE, qF]
 have hC : p.centred a b = ((p.ws.getD a.toNat default).centre == (p.ws.getD b.toNat default).centre) := rfl
 cases hc : ((p.ws.getD a.toNat default).centre == (p.ws.getD b.toNat default).centre)
 case true =>
  rw [hC, hc]
  simp only [Bool.not_false, Bool.true_or, Bool.true_and, RN, qA, qB, qC, qD, qE, qF]
 rw [hC, hc]
 simp only [a1, a2, b1, b2, dv_Wh, getD_map, List.length_map, w1, w3, List.not_mem_nil, RN, qA, qB, qC, qD, qE, qF]
 refine call_d rfl rfl hn ?_
 simp only [Bool.not_false, Bool.false_or, Bool.true_and, RN, qA, qB, qC, qD, qE, qF]
set_option maxRecDepth 10000 in
set_option maxHeartbeats 2000000 in
theorem rGroups_c (p : Piece) (hw : p.ws.length ≤ 1000) (hm : p.ms.length ≤ 1000) (hms : ∀ m ∈ p.ms, p.isW m.a ∧ p.isW m.b) : Pure C F.ref_Groups [p.dv] (.d (.slice false (p.groups.map intDV))) [] := by
 refine pure_of_pwp_fs mixed rfl ok_ref_Groups ?_
 simp only [pc_ref_Groups, rs_ref_Groups, dv_Piece, List.length_map, List.not_mem_nil, RN, qA, qB, qC, qD, qE, qF]
 refine pwp_range p.ws.length (fun i (_ : Unit) => ⟨[(1, .d (.cptr p.cells)), (3, .tsl 1 i 0), (4, .d (.int .i64 i))], ⟨[some (p.cells.map .d)], [0], [some ⟨1, [], 0, 0⟩, some ⟨1, (upTo i).map intDV, i, min i 1⟩]⟩⟩)
  (fun _ _ => True) 0 () (Nat.zero_le _) rfl trivial (fun i _ h1 _ => ?_) (fun _ _ => ?_)
 ·obtain ⟨h2, h3, h6⟩ := rng h1 (by omega)
  have hlu : ((upTo i).map intDV).length + 1 ≤ 1073741824 := by simp [upTo_len]; omega
  have hst : min i 1 ≠ 2 := by omega
  simp only [Piece.cells, h2, h6, ev_mkSl1, fits_int, forall_eq, DV.strip, dcells_int, List.length_map, RN, qA, qB, qC, qD, qE, qF]
  refine ⟨by simp, hst, by rw [List.length_map] at hlu; omega, ?_⟩
  refine up_same () h1 ?_ trivial (by simp) (by simp) ?_ rfl
  ·rw [upTo_succ, List.map_append, List.map_cons, List.map_nil, dv_int, show min (i + 1) 1 = 1 by omega]; rfl
  ·simp [PV.upto]
 ·simp only [Int.lt_irrefl, List.length_map, Piece.cells, RN, qA, qB, qC, qD, qE, qF]
  refine pwp_range p.ws.length (fun i (G : List Int) => ⟨[(1, .d (.cptr p.cells)), (3, .tsl 1 p.ws.length 0), (5, .d (.int .i64 i))], ⟨[some (p.cells.map .d)], [0], [some ⟨1, [], 0, 0⟩, some ⟨1, G.map intDV, p.ws.length, min p.ws.length 1⟩]⟩⟩)
   (fun i G => G.length = p.ws.length ∧ p.groups = grpN p.ms (p.ws.length - i) G) 0 (upTo p.ws.length) (Nat.zero_le _) rfl ⟨upTo_len _, rfl⟩ (fun i G h1 hix => ?_) (fun G hix => ?_)
  ·obtain ⟨h2, h3, h6⟩ := rng h1 (by omega)
   obtain ⟨hG, hix⟩ := hix
   have hmin : min p.ws.length 1 = 1 := by omega
   rw [show p.ws.length - i = (p.ws.length - (i + 1)) + 1 by omega, grpN] at hix
   simp only [h2, List.length_map, Piece.cells, hmin, RN, qA, qB, qC, qD, qE, qF]
   refine pwp_range p.ms.length (fun j (G : List Int) => ⟨[(1, .d (.cptr p.cells)), (3, .tsl 1 p.ws.length 0), (5, .d (.int .i64 i)), (6, .d (.int .i64 j))],
     ⟨[some (p.cells.map .d)], [0], [some ⟨1, [], 0, 0⟩, some ⟨1, G.map intDV, p.ws.length, 1⟩]⟩⟩)
    (fun j G' => G'.length = p.ws.length ∧ grpM p.ms G = grpM (p.ms.drop j) G') 0 G (Nat.zero_le _) rfl ⟨hG, rfl⟩ (fun j G' g1 hjx => ?_) (fun G' hjx => ?_)
   ·obtain ⟨g2, g3, g6⟩ := rng g1 (by omega)
    obtain ⟨hG', hjx⟩ := hjx
    rw [drop_cons g1, grpM] at hjx
    obtain ⟨⟨a1, a2⟩, b1, b2⟩ := hms _ (getD_mem g1)
    rw [← hG'] at a2 b2
    simp only [g2, g3, g1, g6, getD_map, getD_mapI, Int.toNat_natCast, List.length_map, Piece.cells, dv_Ms, a1, a2, b1, b2, minmax_f, List.not_mem_nil, dv_int, minmax_m, RN, qA, qB, qC, qD, qE, qF]
    refine store_ei (xs := G') rfl a2 ?_
    simp only [List.length_map, List.length_set, a1, a2, b1, b2, RN, qA, qB, qC, qD, qE, qF]
    refine store_ei (xs := G'.set _ _) rfl (by simpa using b2) ?_
    simp only [g6, RN, qA, qB, qC, qD, qE, qF]
    refine up_take 1 2 _ g1 ?_ ⟨?_, hjx⟩ (by simp) (by simp) ?_ ?_
    ·rfl
    ·simp [hG']
    ·simp [PV.upto]
    ·simp [PV.upto, Piece.cells]
   ·obtain ⟨hG', hjx⟩ := hjx
    rw [List.drop_length, grpM] at hjx
    simp only [Int.lt_irrefl, List.length_map, Piece.cells, h6, RN, qA, qB, qC, qD, qE, qF]
    refine up_same G' h1 ?_ ⟨hG', by rw [hix, hjx]⟩ (by simp) (by simp) ?_ ?_
    ·rfl
    ·simp [PV.upto]
    ·simp [PV.upto, Piece.cells]
  ·obtain ⟨hG, hix⟩ := hix
   rw [Nat.sub_self, grpN] at hix
   simp only [Int.lt_irrefl, List.length_map, Piece.cells, RN, qA, qB, qC, qD, qE, qF]
   exact ⟨_, datum_tsl (k := 1) rfl rfl, by rw [hix]; rfl⟩
def Piece.rstiffR (p : Piece) (a : Nat) (l : List Nat) : Bool := l.any fun b => (p.groups.getD a default == p.groups.getD b default) && p.clash a b
def Piece.rstiff (p : Piece) : Bool := (List.range p.ws.length).any fun a => p.rstiffR a (List.range a)
def Piece.rlayB (p : Piece) (l : List Int) (a b : Nat) : Bool := (p.groups.getD a default == p.groups.getD b default && l.getD a default != l.getD b default) || (l.getD a default == l.getD b default && p.clash a b)
def Piece.rlayR (p : Piece) (l : List Int) (a : Nat) (L : List Nat) : Bool := L.all fun b => !p.rlayB l a b
def Piece.rlay (p : Piece) (l : List Int) : Bool := (List.range l.length).all fun a => inR (l.getD a default) 0 5 && p.rlayR l a (List.range a)
set_option maxRecDepth 10000 in
set_option maxHeartbeats 4000000 in
theorem rLaying_c (p : Piece) (hok : p.ok = true) (l : List Int) (hl : l.length ≤ p.ws.length) : Pure C F.ref_Laying [p.dv, .slice false (l.map intDV)] (.d (.bool (p.rlay l))) [] := by
 have hg := Piece.ok_good hok
 have hlen := Piece.ok_lens hok
 have hms : ∀ m ∈ p.ms, m.a < m.b := fun m hm => (ok_mss hok m hm).2.1
 have hG := groups_len p
 have h1 := rGroups_c p (by omega) (by omega) (Piece.ok_ms hok)
 have h2 := fun a b ha hb => rClash_c p hg hms (by omega) a b ha hb
 rw [dv_Piece] at h1
 simp only [dv_Piece] at h2
 refine pure_of_pwp_d mixed rfl ok_ref_Laying ?_
 simp only [pc_ref_Laying, rs_ref_Laying, dv_Piece, List.not_mem_nil, RN, qA, qB, qC, qD, qE, qF]
 refine call_d rfl rfl h1 ?_
 simp only [RN, qA, qB, qC, qD, qE, qF]
 refine pwp_range l.length (fun i (_ : Unit) => ⟨[(1, .d (.slice false (l.map intDV))), (2, .d (.cptr p.cells)), (5, .d (.slice false (p.groups.map intDV))), (6, .d (.int .i64 i))], ⟨[some (p.cells.map .d)], [0], []⟩⟩)
  (fun i _ => p.rlay l = ((List.range l.length).drop i).all fun a => inR (l.getD a default) 0 5 && p.rlayR l a (List.range a)) 0 () (Nat.zero_le _) rfl rfl (fun i _ g1 hix => ?_) (fun _ hix => ?_)
 ·obtain ⟨g2, g3, g6⟩ := rng g1 (by omega)
  rw [drop_cons (by simpa using g1), range_getD g1, List.all_cons] at hix
  simp only [Piece.cells, List.length_map, g1, g2, g3, getD_map, dv_int, Int.toNat_natCast, RN, qA, qB, qC, qD, qE, qF]
  refine call_d rfl rfl (rin_c _ _ _) ?_
  cases hI : inR (l.getD i default) 0 5
  ·rw [hI, Bool.false_and, Bool.false_and] at hix
   simp only [RN, qA, qB, qC, qD, qE, qF]
   rw [hix]
  rw [hI, Bool.true_and] at hix
  simp only [RN, qA, qB, qC, qD, qE, qF]
  refine pwp_range i (fun j (_ : Unit) => ⟨[(1, .d (.slice false (l.map intDV))), (2, .d (.cptr p.cells)), (5, .d (.slice false (p.groups.map intDV))), (6, .d (.int .i64 i)), (7, .d (.int .i64 j))], ⟨[some (p.cells.map .d)], [0], []⟩⟩)
   (fun j _ => p.rlayR l i (List.range i) = p.rlayR l i ((List.range i).drop j)) 0 () (Nat.zero_le _) rfl rfl (fun j _ f1 hjx => ?_) (fun _ hjx => ?_)
  ·obtain ⟨f2, f3, f6⟩ := rng f1 (by omega)
   rw [drop_cons (by simpa using f1), range_getD f1] at hjx
   have hjx : p.rlayR l i (List.range i) = (!p.rlayB l i j && p.rlayR l i ((List.range i).drop (j + 1))) := by rw [hjx]; rfl
   have hiG : i < p.groups.length := by omega
   have hjG : j < p.groups.length := by omega
   have hjl : j < l.length := by omega
   have hcl := h2 i j ⟨g3, by simpa using (show i < p.ws.length by omega)⟩ ⟨f3, by simpa using (show j < p.ws.length by omega)⟩
   have hB : p.rlayB l i j = ((p.groups.getD i default == p.groups.getD j default && !(l.getD i default == l.getD j default)) || (l.getD i default == l.getD j default && p.clash i j)) := rfl
   have hne : (l.getD i default != l.getD j default) = !(l.getD i default == l.getD j default) := rfl
   cases hA : (p.groups.getD i default == p.groups.getD j default) <;> cases hN : (l.getD i default == l.getD j default) <;> rw [hN] at hne <;> rw [hA, hN] at hB
   ·have hB : p.rlayB l i j = false := hB
    rw [hB, Bool.not_false, Bool.true_and] at hjx
    simp only [Piece.cells, f2, f3, g3, g1, hjl, hiG, hjG, getD_map, getD_mapI, dv_int, Int.toNat_natCast, List.length_map, hA, hN, hne, Bool.not_false, f6, List.not_mem_nil, RN, qA, qB, qC, qD, qE, qF]
    exact up_same () f1 rfl hjx (by simp) (by simp) rfl rfl
   ·have hB : p.rlayB l i j = p.clash i j := hB
    rw [hB] at hjx
    simp only [Piece.cells, f2, f3, g3, g1, hjl, hiG, hjG, getD_map, getD_mapI, dv_int, Int.toNat_natCast, List.length_map, hA, hN, hne, Bool.not_true, List.not_mem_nil, RN, qA, qB, qC, qD, qE, qF]
    refine call_d rfl rfl hcl ?_
    cases hC : p.clash i j
    ·rw [hC, Bool.not_false, Bool.true_and] at hjx
     simp only [f6, RN, qA, qB, qC, qD, qE, qF]
     exact up_same () f1 rfl hjx (by simp) (by simp) rfl rfl
    ·rw [hC, Bool.not_true, Bool.false_and] at hjx
     simp only [RN, qA, qB, qC, qD, qE, qF]
     rw [hix, hjx, Bool.false_and]
   ·have hB : p.rlayB l i j = true := hB
    rw [hB, Bool.not_true, Bool.false_and] at hjx
    simp only [Piece.cells, f2, f3, g3, g1, hjl, hiG, hjG, getD_map, getD_mapI, dv_int, Int.toNat_natCast, List.length_map, hA, hN, hne, Bool.not_false, List.not_mem_nil, RN, qA, qB, qC, qD, qE, qF]
    rw [hix, hjx, Bool.false_and]
   ·have hB : p.rlayB l i j = p.clash i j := hB
    rw [hB] at hjx
    simp only [Piece.cells, f2, f3, g3, g1, hjl, hiG, hjG, getD_map, getD_mapI, dv_int, Int.toNat_natCast, List.length_map, hA, hN, hne, Bool.not_true, List.not_mem_nil, RN, qA, qB, qC, qD, qE, qF]
    refine call_d rfl rfl hcl ?_
    cases hC : p.clash i j
    ·rw [hC, Bool.not_false, Bool.true_and] at hjx
     simp only [f6, RN, qA, qB, qC, qD, qE, qF]
     exact up_same () f1 rfl hjx (by simp) (by simp) rfl rfl
    ·rw [hC, Bool.not_true, Bool.false_and] at hjx
     simp only [RN, qA, qB, qC, qD, qE, qF]
     rw [hix, hjx, Bool.false_and]
  ·rw [List.drop_eq_nil_of_le (by simp)] at hjx
   have hjx : p.rlayR l i (List.range i) = true := hjx
   rw [hjx, Bool.true_and] at hix
   simp only [Piece.cells, Int.lt_irrefl, g6, RN, qA, qB, qC, qD, qE, qF]
   exact up_same () g1 rfl hix (by simp) (by simp) rfl rfl
 ·rw [List.drop_eq_nil_of_le (by simp), List.all_nil] at hix
  simp only [Piece.cells, Int.lt_irrefl, List.length_map, RN, qA, qB, qC, qD, qE, qF]
  rw [hix]
end Go.Tel
namespace Go.Tel
open Go.Am
def Piece.rlaid (p : Piece) (most : Nat) : Nat → List Int → Option (List Int)
 | 0, now => if p.rlay now then some now else none
 | r + 1, now => if p.rlay now then (upTo (most + 1)).findSome? fun n => p.rlaid most r (now ++ [n]) else none
theorem badL_any (p : Piece) (G : List Int) (i : Nat) (n : Int) : ∀ (xs : List Int) (k : Nat), badL p G i n k xs = (List.range xs.length).any fun j => (G.getD (k + j) default == G.getD i default && xs.getD j default != n) || (xs.getD j default == n && p.clash ((k + j : Nat) : Int) i)
 | [], k => by simp [badL]
 | x :: xs, k => by
  rw [badL, badL_any p G i n xs (k + 1), List.length_cons, List.range_succ_eq_map, List.any_cons, List.any_map]
  congr 1
  congr 1
  funext j
  simp only [Function.comp_apply, Nat.succ_eq_add_one, List.getD_cons_succ]
  rw [show k + 1 + j = k + (j + 1) by omega]
theorem getD_app {α : Type} [Inhabited α] {l : List α} {x : α} {i : Nat} (h : i < l.length) : (l ++ [x]).getD i default = l.getD i default := by
 rw [List.getD_eq_getElem?_getD, List.getElem?_append_left h, List.getD_eq_getElem?_getD]
theorem getD_app_len {α : Type} [Inhabited α] {l : List α} {x : α} : (l ++ [x]).getD l.length default = x := by
 rw [List.getD_eq_getElem?_getD, List.getElem?_append_right (Nat.le_refl _), Nat.sub_self]; rfl
theorem all_congr' {α : Type} {f g : α → Bool} {l : List α} (h : ∀ x ∈ l, f x = g x) : l.all f = l.all g := by
 rw [Bool.eq_iff_iff, List.all_eq_true, List.all_eq_true]
 exact ⟨fun hf x hx => h x hx ▸ hf x hx, fun hf x hx => (h x hx).symm ▸ hf x hx⟩
theorem rlayR_bad (p : Piece) (now : List Int) (n : Int) : p.rlayR (now ++ [n]) now.length (List.range now.length) = !badL p p.groups now.length n 0 now := by
 rw [badL_any, Piece.rlayR, List.not_any_eq_all_not]
 refine all_congr' fun j hj => ?_
 have hj := List.mem_range.1 hj
 rw [Piece.rlayB, getD_app hj, getD_app_len, Nat.zero_add, clash_comm]
 have e1 : (p.groups.getD now.length default == p.groups.getD j default) = (p.groups.getD j default == p.groups.getD now.length default) := by rw [Bool.eq_iff_iff, beq_iff_eq, beq_iff_eq]; exact ⟨Eq.symm, Eq.symm⟩
 have e2 : (n == now.getD j default) = (now.getD j default == n) := by rw [Bool.eq_iff_iff, beq_iff_eq, beq_iff_eq]; exact ⟨Eq.symm, Eq.symm⟩
 have e3 : (n != now.getD j default) = (now.getD j default != n) := by rw [bne, bne, e2]
 rw [e1, e2, e3]
theorem rlay_snoc (p : Piece) (now : List Int) (n : Int) : p.rlay (now ++ [n]) = (p.rlay now && (inR n 0 5 && !badL p p.groups now.length n 0 now)) := by
 rw [Piece.rlay, List.length_append, List.length_singleton, List.range_succ, List.all_append, List.all_cons, List.all_nil, Bool.and_true, getD_app_len, rlayR_bad]
 congr 1
 rw [Piece.rlay]
 refine all_congr' fun a ha => ?_
 have ha := List.mem_range.1 ha
 rw [getD_app ha]
 congr 1
 rw [Piece.rlayR, Piece.rlayR]
 refine all_congr' fun b hb => ?_
 have hb := List.mem_range.1 hb
 rw [Piece.rlayB, Piece.rlayB, getD_app ha, getD_app (show b < now.length by omega)]
theorem findSome_congr {α β : Type} {f g : α → Option β} {l : List α} (h : ∀ x ∈ l, f x = g x) : l.findSome? f = l.findSome? g := by
 induction l with
 | nil => rfl
 | cons a l ih => rw [List.findSome?_cons, List.findSome?_cons, h a List.mem_cons_self, ih fun x hx => h x (List.mem_cons_of_mem _ hx)]
theorem mem_upTo' {n : Nat} {x : Int} : x ∈ upTo n ↔ 0 ≤ x ∧ x < n := by
 rw [upTo, List.mem_map]
 constructor
 ·rintro ⟨i, hi, rfl⟩
  have := List.mem_range.1 hi
  exact ⟨Int.natCast_nonneg _, by simpa using this⟩
 ·rintro ⟨h1, h2⟩
  obtain ⟨i, rfl⟩ := Int.eq_ofNat_of_zero_le h1
  exact ⟨i, List.mem_range.2 (by omega), rfl⟩
theorem rlaid_same {p : Piece} {most : Nat} (hm : most ≤ 5) : ∀ (r : Nat) (now : List Int), p.rlaid most r now = if p.rlay now then layS p p.groups most r now else none
 | 0, now => by rw [Piece.rlaid, layS]
 | r + 1, now => by
  rw [Piece.rlaid, layS]
  cases h : p.rlay now
  ·rfl
  ·rw [if_pos rfl, if_pos rfl]
   refine findSome_congr fun n hn => ?_
   have hn := mem_upTo'.1 hn
   have hi : inR n 0 5 = true := by simp only [inR, Bool.and_eq_true, decide_eq_true_eq]; omega
   rw [rlaid_same hm r, rlay_snoc, h, hi]
   cases badL p p.groups now.length n 0 now <;> rfl
theorem mem_drop_range0 {n a x : Nat} : x ∈ (List.range n).drop a ↔ a ≤ x ∧ x < n := by
 rw [List.mem_iff_getElem?]
 constructor
 ·rintro ⟨i, hi⟩
  rw [List.getElem?_drop] at hi
  obtain ⟨h1, h2⟩ := List.getElem?_eq_some_iff.1 hi
  simp at h1 h2
  omega
 ·rintro ⟨h1, h2⟩
  refine ⟨x - a, ?_⟩
  rw [List.getElem?_drop, show a + (x - a) = x by omega, List.getElem?_range h2]
theorem mem_pairs1 {n : Nat} {gone : List Int} {a b : Nat} : (a, b) ∈ pairsL n gone ↔ a ≤ b ∧ b < n ∧ gone.contains (a : Int) = false ∧ gone.contains (b : Int) = false := by
 rw [pairsL, List.mem_flatMap]
 constructor
 ·rintro ⟨a', ha', h⟩
  obtain ⟨b', hb', h⟩ := List.mem_filterMap.1 h
  split at h
  ·cases h
  ·rename_i hc
   cases h
   have := mem_drop_range0.1 hb'
   simp only [Bool.or_eq_true, not_or, Bool.not_eq_true] at hc
   exact ⟨this.1, this.2, hc.1, hc.2⟩
 ·rintro ⟨h1, h2, h3, h4⟩
  refine ⟨a, List.mem_range.2 (by omega), List.mem_filterMap.2 ⟨b, mem_drop_range0.2 ⟨h1, h2⟩, ?_⟩⟩
  rw [h3, h4]; rfl
theorem mem_pairs0 {n a b : Nat} : (a, b) ∈ pairsL n [] ↔ a ≤ b ∧ b < n := by rw [mem_pairs1]; simp
theorem stiff_same (p : Piece) : p.rstiff = p.stiff := by
 rw [Bool.eq_iff_iff, Piece.rstiff, Piece.stiff, List.any_eq_true, List.any_eq_true]
 constructor
 ·rintro ⟨a, ha, h⟩
  rw [Piece.rstiffR, List.any_eq_true] at h
  obtain ⟨b, hb, h⟩ := h
  have ha := List.mem_range.1 ha
  have hb := List.mem_range.1 hb
  rw [Bool.and_eq_true] at h
  refine ⟨(b, a), mem_pairs0.2 ⟨by omega, ha⟩, ?_⟩
  have e1 : ((b : Int) != (a : Int)) = true := bne_iff_ne.2 (by omega)
  have e2 : (p.groups.getD b default == p.groups.getD a default) = true := beq_iff_eq.2 (beq_iff_eq.1 h.1).symm
  rw [Piece.stiffAt, e1, e2, clash_comm]
  exact h.2
 ·rintro ⟨⟨b, a⟩, hq, h⟩
  obtain ⟨h1, h2⟩ := mem_pairs0.1 hq
  simp only [Piece.stiffAt, Bool.and_eq_true, bne_iff_ne, beq_iff_eq] at h
  obtain ⟨⟨e1, e2⟩, e3⟩ := h
  refine ⟨a, List.mem_range.2 h2, ?_⟩
  rw [Piece.rstiffR, List.any_eq_true]
  refine ⟨b, List.mem_range.2 (by omega), ?_⟩
  rw [Bool.and_eq_true, beq_iff_eq, clash_comm]
  exact ⟨e2.symm, e3⟩
end Go.Tel
open Nat renaming reduceBEq → qA, reduceAdd → qB, reduceSub → qC, reduceEqDiff → qD, reduceLT → qE, reduceLeDiff → qF
namespace Go.Tel
open Go.Am
def Piece.rlayers (p : Piece) : Option (List Int) := (List.range 6).findSome? fun most => p.rlaid most p.ws.length []
theorem rlay_nil (p : Piece) : p.rlay [] = true := rfl
theorem rlayers_same (p : Piece) : p.rlayers = (List.range 6).findSome? fun most => layS p p.groups most p.ws.length [] := by
 refine findSome_congr fun m hm => ?_
 have hm := List.mem_range.1 hm
 rw [rlaid_same (by omega), rlay_nil, if_pos rfl]
theorem layers_of {p : Piece} (hok : p.ok = true) : p.layers = if p.rstiff then ((none, 7) : Option (List Int) × Int) else match p.rlayers with | some l => (some l, 0) | none => (none, 5) := by
 rw [Piece.layers, hok, if_pos rfl, stiff_same, rlayers_same]
 rfl
end Go.Tel
open Nat renaming reduceBEq → qA, reduceAdd → qB, reduceSub → qC, reduceEqDiff → qD, reduceLT → qE, reduceLeDiff → qF
namespace Go.Tel
open Go.Am
set_option maxRecDepth 10000 in
theorem rBefore_c (a b : List Int) (ha : a.length ≤ 1000) (hb : b.length ≤ 1000) : Pure C F.ref_Before [.slice false (a.map intDV), .slice false (b.map intDV)] (.d (.bool (decide (cmpL a b < 0)))) [] := by
 refine pure_of_pwp_d mixed rfl ok_ref_Before ?_
 simp only [pc_ref_Before, rs_ref_Before, RN, qA, qB, qC, qD, qE, qF]
 refine pwp_range (min a.length b.length) (fun i (_ : Unit) => ⟨[(0, .d (.slice false (a.map intDV))), (1, .d (.slice false (b.map intDV))), (5, .d (.int .i64 i))], ⟨[], [], []⟩⟩)
  (fun i _ => cmpL a b = cmpL (a.drop i) (b.drop i)) 0 () (Nat.zero_le _) rfl rfl (fun i _ g1 hix => ?_) (fun _ hix => ?_)
 ·obtain ⟨ga, g3, g6⟩ := rng (show i < a.length by omega) (by omega)
  obtain ⟨gb, _, _⟩ := rng (show i < b.length by omega) (by omega)
  have ka : i < a.length := by omega
  have kb : i < b.length := by omega
  rw [drop_cons ka, drop_cons kb, cmpL] at hix
  by_cases he : a.getD i default = b.getD i default
  ·have e1 : (a.getD i default != b.getD i default) = false := by rw [bne, beq_iff_eq.2 he]; rfl
   rw [if_neg (by omega), if_neg (by omega)] at hix
   simp only [List.length_map, ga, gb, g3, ka, kb, Int.toNat_natCast, getD_map, dv_int, e1, g6, RN, qA, qB, qC, qD, qE, qF]
   exact up_same () g1 rfl hix (by simp) (by simp) rfl rfl
  ·have e1 : (a.getD i default != b.getD i default) = true := by rw [bne, beq_eq_false_iff_ne.2 he]; rfl
   simp only [List.length_map, ga, gb, g3, ka, kb, Int.toNat_natCast, getD_map, dv_int, e1, RN, qA, qB, qC, qD, qE, qF]
   by_cases hlt : a.getD i default < b.getD i default
   ·rw [if_pos hlt] at hix
    rw [hix, decide_eq_true hlt]; rfl
   ·rw [if_neg hlt, if_pos (by omega)] at hix
    rw [hix, decide_eq_false hlt]; rfl
 ·by_cases h1 : a.length < b.length
  ·have c1 : ¬ ((min a.length b.length : Nat) : Int) < (a.length : Int) := by omega
   have c2 : (a.length : Int) < (b.length : Int) := by omega
   rw [List.drop_of_length_le (l := a) (by omega), show min a.length b.length = a.length by omega, drop_cons h1] at hix
   simp only [List.length_map, c1, c2, RN, qA, qB, qC, qD, qE, qF]
   rw [hix]; rfl
  ·have c2 : ¬ (a.length : Int) < (b.length : Int) := by omega
   have c3 : ¬ ((min a.length b.length : Nat) : Int) < (b.length : Int) := by omega
   have hf : ¬ cmpL a b < 0 := by
    rw [hix, List.drop_of_length_le (l := b) (by omega)]
    cases a.drop (min a.length b.length) <;> (rw [cmpL]; omega)
   by_cases c1 : ((min a.length b.length : Nat) : Int) < (a.length : Int)
   ·simp only [List.length_map, c1, c2, c3, RN, qA, qB, qC, qD, qE, qF]
    rw [decide_eq_false hf]
   ·simp only [List.length_map, c1, c2, RN, qA, qB, qC, qD, qE, qF]
    rw [decide_eq_false hf]
end Go.Tel
namespace Go.Tel
open Go.Am
theorem up_first {γ : Type} {f : Int → Option γ} {y : γ} : ∀ n : Nat, (upTo n).findSome? f = some y → ∃ i : Nat, i < n ∧ f i = some y ∧ ∀ j : Nat, j < i → f j = none
 | 0, h => by cases h
 | n + 1, h => by
  rw [upTo_succ, List.findSome?_append] at h
  cases hh : (upTo n).findSome? f with
  | some z =>
   rw [hh] at h
   cases h
   obtain ⟨i, h1, h2, h3⟩ := up_first n hh
   exact ⟨i, by omega, h2, h3⟩
  | none =>
   rw [hh] at h
   rw [List.findSome?_eq_none_iff] at hh
   refine ⟨n, by omega, ?_, fun j hj => hh _ (mem_upTo'.2 (by omega))⟩
   cases hf : f (n : Int) with
   | some z => simpa [hf] using h
   | none => simp [hf] at h
def okE (p : Piece) : List Int → List Int → Bool
 | _, [] => true
 | now, x :: e => !badL p p.groups now.length x 0 now && okE p (now ++ [x]) e
theorem rlay_app (p : Piece) : ∀ (e now : List Int), p.rlay (now ++ e) = (p.rlay now && (e.all (fun x => inR x 0 5) && okE p now e))
 | [], now => by rw [List.append_nil, List.all_nil, okE, Bool.and_true, Bool.and_true]
 | x :: e, now => by
  have h : now ++ x :: e = (now ++ [x]) ++ e := by simp
  rw [h, rlay_app p e, rlay_snoc, List.all_cons, okE]
  cases p.rlay now <;> cases inR x 0 5 <;> cases badL p p.groups now.length x 0 now <;> cases e.all (fun x => inR x 0 5) <;> rfl
theorem rlay_e {p : Piece} {l : List Int} : p.rlay l = true ↔ (∀ x ∈ l, 0 ≤ x ∧ x ≤ 5) ∧ okE p [] l = true := by
 have := rlay_app p l []
 rw [List.nil_append, rlay_nil, Bool.true_and] at this
 rw [this, Bool.and_eq_true, List.all_eq_true]
 simp only [inR, Bool.and_eq_true, decide_eq_true_eq, ge_iff_le]
theorem layS_best (p : Piece) (most : Nat) : ∀ (r : Nat) (now : List Int),
  (∀ l, layS p p.groups most r now = some l → ∃ e, l = now ++ e ∧ e.length = r ∧ (∀ x ∈ e, (0 : Int) ≤ x ∧ x ≤ (most : Int)) ∧ okE p now e = true ∧ ∀ e', e'.length = r → (∀ x ∈ e', (0 : Int) ≤ x ∧ x ≤ (most : Int)) → okE p now e' = true → ¬ cmpL e' e < 0) ∧
  (layS p p.groups most r now = none → ∀ e', e'.length = r → (∀ x ∈ e', (0 : Int) ≤ x ∧ x ≤ (most : Int)) → okE p now e' = true → False)
 | 0, now => by
  constructor
  ·intro l h
   rw [layS] at h
   cases h
   refine ⟨[], by simp, rfl, fun x hx => (by cases hx), rfl, fun e' h1 _ _ => ?_⟩
   rw [List.length_eq_zero_iff.1 h1, cmpL]; omega
  ·intro h
   rw [layS] at h; cases h
 | r + 1, now => by
  have hf : layS p p.groups most (r + 1) now = (upTo (most + 1)).findSome? fun n => if badL p p.groups now.length n 0 now then none else layS p p.groups most r (now ++ [n]) := by rw [layS]
  have step : ∀ x : Int, (if badL p p.groups now.length x 0 now then none else layS p p.groups most r (now ++ [x])) = none → ∀ e', e'.length = r → (∀ y ∈ e', (0 : Int) ≤ y ∧ y ≤ (most : Int)) → okE p now (x :: e') = true → False := by
   intro x hx e' h1 h2 h3
   rw [okE, Bool.and_eq_true, Bool.not_eq_true'] at h3
   rw [h3.1, if_neg (by decide)] at hx
   exact (layS_best p most r (now ++ [x])).2 hx e' h1 h2 h3.2
  constructor
  ·intro l h
   rw [hf] at h
   obtain ⟨i, hi, h1, h2⟩ := up_first _ h
   split at h1
   ·cases h1
   rename_i hb
   rw [Bool.not_eq_true] at hb
   obtain ⟨e, rfl, g1, g2, g3, g4⟩ := (layS_best p most r (now ++ [(i : Int)])).1 l h1
   refine ⟨(i : Int) :: e, by simp, by simp [g1], fun x hx => ?_, by rw [okE, hb, g3]; rfl, fun e' k1 k2 k3 => ?_⟩
   ·rcases List.mem_cons.1 hx with rfl | hx
    ·omega
    ·exact g2 x hx
   ·cases e' with
    | nil => cases k1
    | cons x e' =>
     have hx := k2 x List.mem_cons_self
     have k2' : ∀ y ∈ e', (0 : Int) ≤ y ∧ y ≤ (most : Int) := fun y hy => k2 y (List.mem_cons_of_mem _ hy)
     have k1' : e'.length = r := by simpa using k1
     rw [cmpL]
     by_cases c1 : x < i
     ·obtain ⟨j, rfl⟩ := Int.eq_ofNat_of_zero_le hx.1
      exact absurd (step j (h2 j (by omega)) e' k1' k2' k3) id
     ·rw [if_neg c1]
      by_cases c2 : (i : Int) < x
      ·rw [if_pos c2]; omega
      ·rw [if_neg c2]
       obtain rfl : x = i := by omega
       rw [okE, Bool.and_eq_true] at k3
       exact g4 e' k1' k2' k3.2
  ·intro h e' k1 k2 k3
   rw [hf, List.findSome?_eq_none_iff] at h
   cases e' with
   | nil => cases k1
   | cons x e' =>
    have hx := k2 x List.mem_cons_self
    exact step x (h x (mem_upTo'.2 (by omega))) e' (by simpa using k1) (fun y hy => k2 y (List.mem_cons_of_mem _ hy)) k3
def grt : List Int → Int → Int
 | [], m => m
 | x :: l, m => grt l (max m x)
theorem grt_ge : ∀ (l : List Int) (m : Int), m ≤ grt l m ∧ ∀ x ∈ l, x ≤ grt l m
 | [], m => ⟨by rw [grt]; omega, fun x h => by cases h⟩
 | y :: l, m => by
  obtain ⟨h1, h2⟩ := grt_ge l (max m y)
  rw [grt]
  refine ⟨by omega, fun x hx => ?_⟩
  rcases List.mem_cons.1 hx with rfl | hx
  ·omega
  ·exact h2 x hx
theorem grt_mem : ∀ (l : List Int) (m : Int), grt l m = m ∨ grt l m ∈ l
 | [], m => .inl rfl
 | y :: l, m => by
  rw [grt]
  rcases grt_mem l (max m y) with h | h
  ·rw [h]
   by_cases hc : m ≤ y
   ·right; rw [show max m y = y by omega]; exact List.mem_cons_self
   ·left; omega
  ·right; exact List.mem_cons_of_mem _ h
theorem stiff_none {p : Piece} (hs : p.rstiff = true) {l : List Int} (hl : l.length = p.ws.length) : p.rlay l = false := by
 rw [← Bool.not_eq_true]
 intro h
 rw [Piece.rstiff, List.any_eq_true] at hs
 obtain ⟨a, ha, hs⟩ := hs
 rw [Piece.rstiffR, List.any_eq_true] at hs
 obtain ⟨b, hb, hs⟩ := hs
 have ha' := List.mem_range.1 ha
 rw [Bool.and_eq_true] at hs
 rw [Piece.rlay, List.all_eq_true] at h
 have := h a (by rw [hl]; exact ha)
 rw [Bool.and_eq_true, Piece.rlayR, List.all_eq_true] at this
 have := this.2 b hb
 rw [Piece.rlayB, hs.1, hs.2] at this
 cases hN : (l.getD a default == l.getD b default) <;> rw [bne, hN] at this <;> cases this
theorem rlay_pair {p : Piece} {l : List Int} (h : p.rlay l = true) {a b : Nat} (ha : a < l.length) (hb : b < a) (he : l.getD a default = l.getD b default) : p.clash a b = false := by
 rw [Piece.rlay, List.all_eq_true] at h
 have := h a (List.mem_range.2 ha)
 rw [Bool.and_eq_true, Piece.rlayR, List.all_eq_true] at this
 have := this.2 b (List.mem_range.2 hb)
 rw [Piece.rlayB, beq_iff_eq.2 he, Bool.true_and, Bool.not_eq_true', Bool.or_eq_false_iff] at this
 exact this.2
theorem laid_best {p : Piece} : (∀ l, p.rlayers = some l → l.length = p.ws.length ∧ p.rlay l = true ∧ ∀ o, o.length = p.ws.length → p.rlay o = true → ¬ grt o (-1) < grt l (-1) ∧ (grt o (-1) = grt l (-1) → ¬ cmpL o l < 0)) ∧
  (p.rlayers = none → ∀ o, o.length = p.ws.length → p.rlay o = false) := by
 rw [rlayers_same]
 constructor
 ·intro l h
  have hr : (upTo 6).findSome? (fun m => layS p p.groups m.toNat p.ws.length []) = some l := by
   rw [upTo, List.findSome?_map]; exact h
  obtain ⟨m, hm, h1, h2⟩ := up_first _ hr
  simp only [Int.toNat_natCast] at h1 h2
  obtain ⟨e, he, g1, g2, g3, g4⟩ := (layS_best p m p.ws.length []).1 l h1
  rw [List.nil_append] at he
  subst he
  have hl : p.rlay l = true := rlay_e.2 ⟨fun x hx => by have := g2 x hx; omega, g3⟩
  refine ⟨g1, hl, fun o ho hO => ?_⟩
  obtain ⟨o1, o2⟩ := rlay_e.1 hO
  obtain ⟨a1, a2⟩ := grt_ge o (-1)
  obtain ⟨b1, b2⟩ := grt_ge l (-1)
  by_cases hn : p.ws.length = 0
  ·have e1 : o = [] := List.length_eq_zero_iff.1 (by omega)
   have e2 : l = [] := List.length_eq_zero_iff.1 (by omega)
   rw [e1, e2]
   exact ⟨by omega, fun _ => by rw [cmpL]; omega⟩
  have hpos : 0 < o.length := by omega
  have h0 := o1 _ (getD_mem hpos)
  have h3 := a2 _ (getD_mem hpos)
  have hM5 : grt o (-1) ≤ 5 := by
   rcases grt_mem o (-1) with h | h
   ·omega
   ·exact (o1 _ h).2
  obtain ⟨M, hM⟩ := Int.eq_ofNat_of_zero_le (show 0 ≤ grt o (-1) by omega)
  have hge : m ≤ M := by
   refine Nat.le_of_not_lt fun hlt => ?_
   exact (layS_best p M p.ws.length []).2 (h2 M hlt) o ho (fun x hx => by have := o1 x hx; have := a2 x hx; omega) o2
  have hN : grt l (-1) ≤ m := by
   rcases grt_mem l (-1) with h | h
   ·omega
   ·exact (g2 _ h).2
  refine ⟨by omega, fun heq => g4 o ho (fun x hx => ?_) o2⟩
  have := o1 x hx
  have := a2 x hx
  omega
 ·intro h o ho
  rw [List.findSome?_eq_none_iff] at h
  have h5 := h 5 (List.mem_range.2 (by decide))
  rw [← Bool.not_eq_true]
  intro hO
  obtain ⟨o1, o2⟩ := rlay_e.1 hO
  exact (layS_best p 5 p.ws.length []).2 h5 o ho (fun x hx => o1 x hx) o2
structure Layd (p : Piece) (l : List Int) (k : Nat) (W : List Wh) : Prop where
 len : W.length = p.ws.length
 get : ∀ c, c < p.ws.length → W.getD c default = if c < k then { p.ws.getD c default with layer := l.getD c default } else p.ws.getD c default
section
variable {p : Piece} {l : List Int} {W : List Wh} (hok : p.ok = true) (hl : l.length = p.ws.length) (hr : p.rlay l = true) (hW : Layd p l p.ws.length W)
include hok hl hr hW
theorem layd_ok : ({ p with ws := W } : Piece).ok = true := by
 have h := hok
 simp only [Piece.ok, Bool.and_eq_true] at h ⊢
 obtain ⟨⟨⟨⟨k1, k2⟩, k3⟩, k4⟩, k5⟩ := h
 refine ⟨⟨⟨⟨k1, ?_⟩, k3⟩, by rw [hW.len]; exact k4⟩, ?_⟩
 ·simp only [Piece.lensOk, hW.len] at k2 ⊢; exact k2
 ·rw [List.all_eq_true] at k5 ⊢
  intro x hx
  obtain ⟨c, hc, rfl⟩ := List.getElem_of_mem hx
  have hcn : c < p.ws.length := by rw [← hW.len]; exact hc
  have hg := hW.get c hcn
  rw [List.getD_eq_getElem?_getD, List.getElem?_eq_getElem hc, Option.getD_some, if_pos hcn] at hg
  have h5 := k5 _ (getD_mem hcn)
  have hly := (rlay_e.1 hr).1 _ (getD_mem (show c < l.length by omega))
  rw [hg]
  simp only [whOk, inR, Bool.and_eq_true, decide_eq_true_eq] at h5 ⊢
  omega
theorem layd_wrong {a b : Nat} (ha : a < p.ws.length) (hb : b < a) : ({ p with ws := W } : Piece).wrong [] a b ≠ 3 ∧ ({ p with ws := W } : Piece).wrong [] a b ≠ 4 := by
 have ga := hW.get a ha
 have gb := hW.get b (by omega)
 rw [if_pos ha] at ga
 rw [if_pos (by omega)] at gb
 have wa : ({ p with ws := W } : Piece).wh a = { p.wh a with layer := l.getD a default } := by simp only [Piece.wh, Int.toNat_natCast]; exact ga
 have wb : ({ p with ws := W } : Piece).wh b = { p.wh b with layer := l.getD b default } := by simp only [Piece.wh, Int.toNat_natCast]; exact gb
 have hme : ({ p with ws := W } : Piece).mesh a b = p.mesh a b := rfl
 have hce : ({ p with ws := W } : Piece).centred a b = p.centred a b := by rw [Piece.centred, Piece.centred, wa, wb]
 have hpa : ({ p with ws := W } : Piece).pt a = p.pt a := by rw [Piece.pt, Piece.pt, wa]
 have hpb : ({ p with ws := W } : Piece).pt b = p.pt b := by rw [Piece.pt, Piece.pt, wb]
 have hfa : ({ p with ws := W } : Piece).far a b = p.far a b := by rw [Piece.far, Piece.far, hpa, hpb]
 have hsu : ({ p with ws := W } : Piece).sum a b = p.sum a b := by rw [Piece.sum, Piece.sum, wa, wb]
 have hle : ({ p with ws := W } : Piece).level a b = (l.getD a default == l.getD b default) := by rw [Piece.level, wa, wb]
 have hcl : (l.getD a default == l.getD b default) = true → p.clash a b = false := fun h => rlay_pair hr (by omega) hb (beq_iff_eq.1 h)
 have hga : ({ p with ws := W } : Piece).ga = p.ga := rfl
 have hab : ¬ (a : Int) = (b : Int) := by omega
 have ht : ({ p with ws := W } : Piece).touch a b = false := by
  rw [Piece.touch, hme, hle, hce, hfa, hsu, hga]
  cases hN : (l.getD a default == l.getD b default)
  ·simp
  ·have := hcl hN
   rw [Piece.clash] at this
   revert this
   cases p.mesh a b <;> cases p.centred a b <;> cases decide (p.far a b < sq (p.sum a b + p.ga)) <;> simp
 rw [Piece.wrong, if_neg hab]
 split
 ·exact ⟨by decide, by decide⟩
 rename_i hap
 rw [ht, if_neg (by decide)]
 have hsm : ({ p with ws := W } : Piece).same a b = false := by
  rw [Bool.not_eq_true, Piece.apart, hme, hle, hce] at hap
  rw [Piece.same, hce, hle]
  cases hN : (l.getD a default == l.getD b default)
  ·simp
  ·have := hcl hN
   rw [Piece.clash] at this
   revert this hap
   rw [hN]
   cases p.mesh a b <;> cases p.centred a b <;> simp
 rw [hsm, if_neg (by decide)]
 split
 ·exact ⟨by decide, by decide⟩
 split <;> exact ⟨by decide, by decide⟩
end
end Go.Tel
