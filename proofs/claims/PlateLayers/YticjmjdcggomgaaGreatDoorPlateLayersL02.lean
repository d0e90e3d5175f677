/-
  Part 2 of the proof of a law of plates, the law itself: an abstract machine over the model, contracts of functions, plain laws.
  Conditions: none.
-/
import Derived.Test.YticjmjdcggomgaaGreatDoorPlateLayersL01
set_option linter.all false
namespace Go.Tel
end Go.Tel
open Nat renaming reduceBEq → qA, reduceAdd → qB, reduceSub → qC, reduceEqDiff → qD, reduceLT → qE, reduceLeDiff → qF
namespace Go.Tel
open Go.Am
theorem cellsEq_pt (x y : Pt) : cellsEq [1, 1] [.int .i64 x.x, .int .i64 x.y] [.int .i64 y.x, .int .i64 y.y] = some (decide (x = y)) := by
 obtain ⟨a, b⟩ := x
 obtain ⟨c, d⟩ := y
 by_cases h1 : a = c <;> by_cases h2 : b = d <;> simp [cellsEq, h1, h2]
theorem cellsEq_ms (x y : Ms) : cellsEq [1, 1] [.int .i64 x.a, .int .i64 x.b] [.int .i64 y.a, .int .i64 y.b] = some (decide (x = y)) := by
 obtain ⟨a, b⟩ := x
 obtain ⟨c, d⟩ := y
 by_cases h1 : a = c <;> by_cases h2 : b = d <;> simp [cellsEq, h1, h2]
set_option maxRecDepth 10000 in
set_option maxHeartbeats 4000000 in
theorem rPiece_c (p : Piece) (hc : p.cs.length ≤ 1000) (hw : p.ws.length ≤ 1000) (hm : p.ms.length ≤ 1000) : Pure C F.ref_Piece [p.dv] (.d (.bool p.ok)) [] := by
 refine pure_of_pwp_d mixed rfl ok_ref_Piece ?_
 simp only [pc_ref_Piece, rs_ref_Piece, dv_Piece, RN, qA, qB, qC, qD, qE, qF]
 by_cases hh : p.headOk = true
 case neg =>
  have hok : p.ok = false := by simp [Piece.ok, hh]
  rw [hok]
  repeat' first
   | (refine call_d rfl rfl (rin_c _ _ _) ?_; try simp only [RN, qA, qB, qC, qD, qE, qF])
   | (refine guard_split (by rfl) (fun hB => ?_) (fun hB => ?_) <;> simp only [hB, RN, qA, qB, qC, qD, qE, qF])
   | (refine cond_split (by rfl) (fun hB => ?_) (fun hB => ?_) <;> simp only [hB, RN, qA, qB, qC, qD, qE, qF])
  all_goals (first | rfl | (exfalso; simp_all [Piece.headOk]; done))
 have hh' := hh
 simp only [Piece.headOk, Bool.and_eq_true] at hh'
 obtain ⟨⟨⟨⟨a1, a2⟩, a3⟩, a4⟩, a5⟩ := hh'
 refine call_d rfl rfl (rin_c _ _ _) ?_
 simp only [a1, RN, qA, qB, qC, qD, qE, qF]
 refine call_d rfl rfl (rin_c _ _ _) ?_
 simp only [a2, RN, qA, qB, qC, qD, qE, qF]
 refine call_d rfl rfl (rin_c _ _ _) ?_
 simp only [a3, RN, qA, qB, qC, qD, qE, qF]
 refine call_d rfl rfl (rin_c _ _ _) ?_
 simp only [a4, RN, qA, qB, qC, qD, qE, qF]
 refine call_d rfl rfl (rin_c _ _ _) ?_
 simp only [a5, List.length_map, RN, qA, qB, qC, qD, qE, qF]
 refine call_d rfl rfl (rin_c _ _ _) ?_
 by_cases l1 : inR p.cs.length 1 6 = true
 case neg =>
  have l1' : inR p.cs.length 1 6 = false := by simpa using l1
  simp only [l1', RN, qA, qB, qC, qD, qE, qF]
  simp [Piece.ok, Piece.lensOk, l1']
 by_cases l2 : p.ws.length ≤ 8
 case neg =>
  have b2 : (p.ws.length : Int) > 8 := by omega
  simp only [l1, b2, List.length_map, RN, qA, qB, qC, qD, qE, qF]
  simp [Piece.ok, Piece.lensOk, l1, b2]
 have b2 : ¬ (p.ws.length : Int) > 8 := by omega
 by_cases l3 : p.ms.length ≤ 10
 case neg =>
  have b3 : (p.ms.length : Int) > 10 := by omega
  simp only [l1, b2, b3, List.length_map, RN, qA, qB, qC, qD, qE, qF]
  simp [Piece.ok, Piece.lensOk, l1, b2, b3]
 have b3 : ¬ (p.ms.length : Int) > 10 := by omega
 simp only [l1, b2, b3, List.length_map, RN, qA, qB, qC, qD, qE, qF]
 have hlens : p.lensOk = true := by simp [Piece.lensOk, l1, b2, b3]
 have hok : p.ok = (ptsOk p.w p.h [] p.cs && mssOk p.ws.length [] p.ms && p.ws.all (whOk p.cs.length)) := by simp [Piece.ok, hh, hlens]
 rw [hok]
 refine pwp_range p.cs.length (fun i (_ : Unit) => ⟨[(1, .d (.cptr p.cells)), (3, .d (.int .i64 i))], ⟨[some (p.cells.map .d)], [0], []⟩⟩)
  (fun i _ => ptsOk p.w p.h [] p.cs = ptsOk p.w p.h (p.cs.take i) (p.cs.drop i)) 0 () (Nat.zero_le _) rfl (by simp) (fun i _ g1 hix => ?_) (fun _ hix => ?_)
 ·obtain ⟨g2, g3, g6⟩ := rng g1 (by omega)
  rw [drop_cons g1, ptsOk, ← take_snoc g1] at hix
  simp only [Piece.cells, g2, g3, g1, getD_map, Int.toNat_natCast, List.length_map, dv_Pt, List.not_mem_nil, RN, qA, qB, qC, qD, qE, qF]
  have hci : p.cs.getD i default = p.cs.getD i default := rfl
  generalize hcg : p.cs.getD i default = c at *
  refine call_d rfl rfl (rin_c _ _ _) ?_
  by_cases x1 : inR c.x 0 p.w = true
  case neg =>
   have x1' : inR c.x 0 p.w = false := by simpa using x1
   simp only [x1', RN, qA, qB, qC, qD, qE, qF]
   simp [hix, x1']
  simp only [x1, RN, qA, qB, qC, qD, qE, qF]
  refine call_d rfl rfl (rin_c _ _ _) ?_
  by_cases x2 : inR c.y 0 p.h = true
  case neg =>
   have x2' : inR c.y 0 p.h = false := by simpa using x2
   simp only [x2', RN, qA, qB, qC, qD, qE, qF]
   simp [hix, x2']
  simp only [x2, RN, qA, qB, qC, qD, qE, qF]
  rw [x1, x2, Bool.true_and, Bool.true_and] at hix
  refine pwp_range i (fun k (_ : Unit) => ⟨[(1, .d (.cptr p.cells)), (3, .d (.int .i64 i)), (4, .d (.cptr [.int .i64 c.x, .int .i64 c.y])), (5, .d (.int .i64 k))], ⟨[some (p.cells.map .d), some [.d (.int .i64 c.x), .d (.int .i64 c.y)]], [1, 0], []⟩⟩)
   (fun k _ => c ∉ p.cs.take k) 0 () (Nat.zero_le _) rfl (by simp) (fun k _ e1 hk => ?_) (fun _ hk => ?_)
  ·obtain ⟨e2, e3, e6⟩ := rng e1 (by omega)
   have e1' : k < p.cs.length := by omega
   simp only [Piece.cells, e2, e3, e1', getD_map, Int.toNat_natCast, List.length_map, dv_Pt, RN, qA, qB, qC, qD, qE, qF]
   rw [ev_binA (cellsEq_pt _ _)]
   by_cases he : p.cs.getD k default = c
   ·rw [decide_eq_true he]
    have hx : (true != false) = true := rfl
    have hmem : c ∈ p.cs.take i := by
     rw [← he, List.getD_eq_getElem?_getD, List.getElem?_eq_getElem e1']
     exact List.mem_take_iff_getElem.2 ⟨k, by omega, rfl⟩
    simp only [hx, RN, qA, qB, qC, qD, qE, qF]
    simp [hix, hmem]
   ·rw [decide_eq_false he]
    have hx : (false != false) = false := rfl
    simp only [hx, e6, RN, qA, qB, qC, qD, qE, qF]
    exact up_same () e1 rfl (by rw [take_snoc e1']; simp only [List.mem_append, List.mem_singleton, not_or]; exact ⟨hk, fun h => he h.symm⟩) (by simp) (by simp) rfl rfl
  ·have hcn : (p.cs.take i).contains c = false := by simpa using hk
   rw [hcn, Bool.not_false, Bool.true_and] at hix
   simp only [Int.lt_irrefl, g6, RN, qA, qB, qC, qD, qE, qF]
   exact up_take 1 0 () g1 rfl hix (by simp) (by simp) rfl rfl
 ·rw [List.drop_length, ptsOk] at hix
  simp only [Piece.cells, Int.lt_irrefl, List.length_map, RN, qA, qB, qC, qD, qE, qF]
  rw [hix, Bool.true_and]
  refine pwp_range p.ws.length (fun i (_ : Unit) => ⟨[(1, .d (.cptr p.cells)), (6, .d (.int .i64 i))], ⟨[some (p.cells.map .d)], [0], []⟩⟩)
   (fun i _ => p.ws.all (whOk p.cs.length) = (p.ws.drop i).all (whOk p.cs.length)) 0 () (Nat.zero_le _) rfl (by simp) (fun i _ g1 hjx => ?_) (fun _ hjx => ?_)
  ·obtain ⟨g2, g3, g6⟩ := rng g1 (by omega)
   have wl : IntKind.i64.wrap ((p.cs.length : Int) - 1) = (p.cs.length : Int) - 1 := w64_in (by omega)
   rw [drop_cons g1, List.all_cons] at hjx
   simp only [Piece.cells, g2, g3, g1, getD_map, Int.toNat_natCast, List.length_map, dv_Wh, List.not_mem_nil, wl, RN, qA, qB, qC, qD, qE, qF]
   generalize p.ws.getD i default = w at *
   refine call_d rfl rfl (rin_c _ _ _) ?_
   by_cases x1 : inR w.centre 0 ((p.cs.length : Int) - 1) = true
   case neg =>
    have x1' := eq_false_of_ne_true x1
    simp only [x1', RN, qA, qB, qC, qD, qE, qF]
    simp [hjx, whOk, x1']
   simp only [x1, RN, qA, qB, qC, qD, qE, qF]
   refine call_d rfl rfl (rin_c _ _ _) ?_
   by_cases x2 : inR w.sleeve 0 2 = true
   case neg =>
    have x2' := eq_false_of_ne_true x2
    simp only [x2', RN, qA, qB, qC, qD, qE, qF]
    simp [hjx, whOk, x2']
   simp only [x2, RN, qA, qB, qC, qD, qE, qF]
   refine call_d rfl rfl (rin_c _ _ _) ?_
   by_cases x3 : inR w.layer 0 5 = true
   case neg =>
    have x3' := eq_false_of_ne_true x3
    simp only [x3', RN, qA, qB, qC, qD, qE, qF]
    simp [hjx, whOk, x3']
   simp only [x3, RN, qA, qB, qC, qD, qE, qF]
   refine call_d rfl rfl (rin_c _ _ _) ?_
   by_cases x4 : inR w.teeth 4 50 = true
   case neg =>
    have x4' := eq_false_of_ne_true x4
    simp only [x4', RN, qA, qB, qC, qD, qE, qF]
    simp [hjx, whOk, x4']
   simp only [x4, g6, RN, qA, qB, qC, qD, qE, qF]
   exact up_take 1 0 () g1 rfl (by rw [hjx]; simp [whOk, x1, x2, x3, x4]) (by simp) (by simp) rfl rfl
  rw [List.drop_length, List.all_nil] at hjx
  rw [hjx, Bool.and_true]
  simp only [Piece.cells, Int.lt_irrefl, List.length_map, RN, qA, qB, qC, qD, qE, qF]
  refine pwp_range p.ms.length (fun i (_ : Unit) => ⟨[(1, .d (.cptr p.cells)), (8, .d (.int .i64 i))], ⟨[some (p.cells.map .d)], [0], []⟩⟩)
   (fun i _ => mssOk p.ws.length [] p.ms = mssOk p.ws.length (p.ms.take i) (p.ms.drop i)) 0 () (Nat.zero_le _) rfl (by simp) (fun i _ g1 hkx => ?_) (fun _ hkx => ?_)
  ·obtain ⟨g2, g3, g6⟩ := rng g1 (by omega)
   have hwc : ∀ n, Pure C F.ref_Wheel [.agg p.cells, .int .i64 n] (.d (.bool (inR n 0 (p.ws.length - 1)))) [] := fun n => by
    have := rWheel_c p n (by omega)
    rw [dv_Piece] at this
    exact this
   rw [drop_cons g1, mssOk, ← take_snoc g1] at hkx
   simp only [Piece.cells, g2, g3, g1, getD_map, Int.toNat_natCast, List.length_map, dv_Ms, List.not_mem_nil, RN, qA, qB, qC, qD, qE, qF]
   generalize p.ms.getD i default = c at *
   refine call_d rfl rfl (hwc _) ?_
   by_cases x1 : inR c.a 0 ((p.ws.length : Int) - 1) = true
   case neg =>
    have x1' := eq_false_of_ne_true x1
    simp only [x1', RN, qA, qB, qC, qD, qE, qF]
    simp [hkx, x1']
   simp only [x1, RN, qA, qB, qC, qD, qE, qF]
   refine call_d rfl rfl (hwc _) ?_
   by_cases x2 : inR c.b 0 ((p.ws.length : Int) - 1) = true
   case neg =>
    have x2' := eq_false_of_ne_true x2
    simp only [x2', RN, qA, qB, qC, qD, qE, qF]
    simp [hkx, x2']
   by_cases x3 : c.a ≥ c.b
   case pos =>
    simp only [x2, x3, RN, qA, qB, qC, qD, qE, qF]
    rw [hkx, decide_eq_true x3]
    simp
   simp only [x2, x3, RN, qA, qB, qC, qD, qE, qF]
   rw [x1, x2, decide_eq_false x3, Bool.not_false, Bool.true_and, Bool.true_and, Bool.true_and] at hkx
   refine pwp_range i (fun k (_ : Unit) => ⟨[(1, .d (.cptr p.cells)), (8, .d (.int .i64 i)), (9, .d (.cptr [.int .i64 c.a, .int .i64 c.b])), (10, .d (.int .i64 k))], ⟨[some (p.cells.map .d), some [.d (.int .i64 c.a), .d (.int .i64 c.b)]], [1, 0], []⟩⟩)
    (fun k _ => c ∉ p.ms.take k) 0 () (Nat.zero_le _) rfl (by simp) (fun k _ e1 hk => ?_) (fun _ hk => ?_)
   ·obtain ⟨e2, e3, e6⟩ := rng e1 (by omega)
    have e1' : k < p.ms.length := by omega
    simp only [Piece.cells, e2, e3, e1', getD_map, Int.toNat_natCast, List.length_map, dv_Ms, RN, qA, qB, qC, qD, qE, qF]
    rw [ev_binA (cellsEq_ms _ _)]
    by_cases he : p.ms.getD k default = c
    ·rw [decide_eq_true he]
     have hx : (true != false) = true := rfl
     have hmem : c ∈ p.ms.take i := by
      rw [← he, List.getD_eq_getElem?_getD, List.getElem?_eq_getElem e1']
      exact List.mem_take_iff_getElem.2 ⟨k, by omega, rfl⟩
     simp only [hx, RN, qA, qB, qC, qD, qE, qF]
     simp [hkx, hmem]
    ·rw [decide_eq_false he]
     have hx : (false != false) = false := rfl
     simp only [hx, e6, RN, qA, qB, qC, qD, qE, qF]
     exact up_same () e1 rfl (by rw [take_snoc e1']; simp only [List.mem_append, List.mem_singleton, not_or]; exact ⟨hk, fun h => he h.symm⟩) (by simp) (by simp) rfl rfl
   ·have hcn : (p.ms.take i).contains c = false := by simpa using hk
    rw [hcn, Bool.not_false, Bool.true_and] at hkx
    simp only [Int.lt_irrefl, g6, RN, qA, qB, qC, qD, qE, qF]
    exact up_take 1 0 () g1 rfl hkx (by simp) (by simp) rfl rfl
  ·rw [List.drop_length, mssOk] at hkx
   simp only [Piece.cells, Int.lt_irrefl, List.length_map, RN, qA, qB, qC, qD, qE, qF]
   rw [hkx]
end Go.Tel
open Nat renaming reduceBEq → qA, reduceAdd → qB, reduceSub → qC, reduceEqDiff → qD, reduceLT → qE, reduceLeDiff → qF
namespace Go.Tel
open Go.Am
def Piece.rmeshed (p : Piece) (a b : Int) : Bool := p.ms.any fun m => (m.a == a && m.b == b) || (m.a == b && m.b == a)
def Piece.rnear (p : Piece) (a b n : Int) : Bool := decide (p.far a b < n * n)
def ptFar (a b : Pt) : Int := (a.x - b.x) * (a.x - b.x) + (a.y - b.y) * (a.y - b.y)
def Pt.inB (a : Pt) : Prop := 0 ≤ a.x ∧ a.x ≤ 1000 ∧ 0 ≤ a.y ∧ a.y ≤ 1000
set_option maxRecDepth 10000 in
theorem rFar_c (a b : Pt) (ha : a.inB) (hb : b.inB) : Pure C F.ref_Far [a.dv, b.dv] (.d (.int .i64 (ptFar a b))) [] := by
 obtain ⟨a1, a2, a3, a4⟩ := ha
 obtain ⟨b1, b2, b3, b4⟩ := hb
 have x := sq_bd (n := a.x - b.x) (k := 1000) (by omega)
 have y := sq_bd (n := a.y - b.y) (k := 1000) (by omega)
 have w1 : IntKind.i64.wrap (a.x - b.x) = a.x - b.x := w64_in (by omega)
 have w2 : IntKind.i64.wrap (a.y - b.y) = a.y - b.y := w64_in (by omega)
 have w3 : IntKind.i64.wrap ((a.x - b.x) * (a.x - b.x)) = (a.x - b.x) * (a.x - b.x) := w64_in (by omega)
 have w4 : IntKind.i64.wrap ((a.y - b.y) * (a.y - b.y)) = (a.y - b.y) * (a.y - b.y) := w64_in (by omega)
 have w5 : IntKind.i64.wrap ((a.x - b.x) * (a.x - b.x) + (a.y - b.y) * (a.y - b.y)) = (a.x - b.x) * (a.x - b.x) + (a.y - b.y) * (a.y - b.y) := w64_in (by omega)
 refine pure_of_pwp_d mixed rfl ok_ref_Far ?_
 simp only [pc_ref_Far, rs_ref_Far, dv_Pt, w1, w2, w3, w4, w5, RN, qA, qB, qC, qD, qE, qF]
 rw [ptFar]
set_option maxRecDepth 10000 in
theorem rfar_c (p : Piece) (hg : p.good) (a b : Int) (ha : p.isW a) (hb : p.isW b) : Pure C F.ref_far [p.dv, .int .i64 a, .int .i64 b] (.d (.int .i64 (p.far a b))) [] := by
 have xa := good_pt hg ha
 have xb := good_pt hg hb
 obtain ⟨⟨a3, a4⟩, _⟩ := good_wh hg ha
 obtain ⟨⟨b3, b4⟩, _⟩ := good_wh hg hb
 obtain ⟨a1, a2⟩ := ha
 obtain ⟨b1, b2⟩ := hb
 have hf := rFar_c (p.cs.getD (p.ws.getD a.toNat default).centre.toNat default) (p.cs.getD (p.ws.getD b.toNat default).centre.toNat default) xa xb
 rw [dv_Pt, dv_Pt] at hf
 refine pure_of_pwp_d mixed rfl ok_ref_far ?_
 simp only [pc_ref_far, rs_ref_far, dv_Piece, dv_Pt, dv_Wh, getD_map, a1, a2, a3, a4, b1, b2, b3, b4, List.length_map, RN, qA, qB, qC, qD, qE, qF]
 refine call_d rfl rfl hf ?_
 simp only [Piece.far, Piece.pt, Piece.wh, sq, ptFar]
set_option maxRecDepth 10000 in
theorem rnear_c (p : Piece) (hg : p.good) (a b : Int) (ha : p.isW a) (hb : p.isW b) (n : Int) (hn : -10000 ≤ n ∧ n ≤ 10000) : Pure C F.ref_near [p.dv, .int .i64 a, .int .i64 b, .int .i64 n] (.d (.bool (p.rnear a b n))) [] := by
 have x := sq_bd (n := n) (k := 10000) (by omega)
 have w1 : IntKind.i64.wrap (n * n) = n * n := w64_in (by omega)
 have hf := rfar_c p hg a b ha hb
 rw [dv_Piece] at hf
 refine pure_of_pwp_d mixed rfl ok_ref_near ?_
 simp only [pc_ref_near, rs_ref_near, dv_Piece, RN, qA, qB, qC, qD, qE, qF]
 refine call_d rfl rfl hf ?_
 simp only [w1, RN, qA, qB, qC, qD, qE, qF]
 rw [Piece.rnear]
set_option maxRecDepth 10000 in
theorem rMeshed_c (p : Piece) (a b : Int) (hl : p.ms.length ≤ 1000) : Pure C F.ref_Meshed [p.dv, .int .i64 a, .int .i64 b] (.d (.bool (p.rmeshed a b))) [] := by
 refine pure_of_pwp_d mixed rfl ok_ref_Meshed ?_
 simp only [pc_ref_Meshed, rs_ref_Meshed, dv_Piece, RN, qA, qB, qC, qD, qE, qF]
 refine pwp_range p.ms.length (fun i (_ : Unit) => ⟨[(1, .d (.int .i64 a)), (2, .d (.int .i64 b)), (3, .d (.cptr p.cells)), (7, .d (.int .i64 i))], ⟨[some (p.cells.map .d)], [0], []⟩⟩)
  (fun i _ => p.rmeshed a b = ((p.ms.drop i).any fun m => (m.a == a && m.b == b) || (m.a == b && m.b == a))) 0 () (Nat.zero_le _) rfl rfl (fun i _ g1 hix => ?_) (fun _ hix => ?_)
 ·obtain ⟨g2, g3, g6⟩ := rng g1 (by omega)
  rw [drop_cons g1, List.any_cons] at hix
  simp only [Piece.cells, g2, g3, g1, getD_map, Int.toNat_natCast, List.length_map, dv_Ms, List.not_mem_nil, RN, qA, qB, qC, qD, qE, qF]
  generalize p.ms.getD i default = m at *
  have key : ∀ t : Bool, t = ((m.a == a && m.b == b) || (m.a == b && m.b == a)) → p.rmeshed a b = (t || ((p.ms.drop (i + 1)).any fun m => (m.a == a && m.b == b) || (m.a == b && m.b == a))) := fun t ht => by rw [hix, ht]
  clear hix
  repeat' first
   | (refine guard_split (by rfl) (fun hB => ?_) (fun hB => ?_) <;> simp only [hB, List.not_mem_nil, g6, RN, qA, qB, qC, qD, qE, qF])
   | (refine cond_split (by rfl) (fun hB => ?_) (fun hB => ?_) <;> simp only [hB, List.not_mem_nil, g6, RN, qA, qB, qC, qD, qE, qF])
  all_goals first
   | (rw [key true (by simp_all)]; rfl)
   | (exact up_take 1 0 () g1 rfl (by rw [key false (by simp_all), Bool.false_or]) (by simp) (by simp) rfl rfl)
 ·rw [List.drop_length, List.any_nil] at hix
  simp only [Piece.cells, Int.lt_irrefl, List.length_map, RN, qA, qB, qC, qD, qE, qF]
  rw [hix]
theorem range_getD {n i : Nat} (h : i < n) : (List.range n).getD i default = i := by
 rw [List.getD_eq_getElem?_getD, List.getElem?_range h]; rfl
end Go.Tel
namespace Go.Tel
open Go.Am
theorem mssOk_lt {n : Int} : ∀ {pre ms : List Ms}, mssOk n pre ms = true → ∀ m ∈ ms, 0 ≤ m.a ∧ m.a < m.b ∧ m.b ≤ n - 1
 | _, [], _, m, h => by cases h
 | pre, x :: ms, h, m, hm => by
  simp only [mssOk, inR, Bool.and_eq_true, decide_eq_true_eq, Bool.not_eq_true', decide_eq_false_iff_not, ge_iff_le] at h
  rcases List.mem_cons.1 hm with rfl | hm
  ·omega
  ·exact mssOk_lt h.2 m hm
theorem ok_mss {p : Piece} (h : p.ok = true) : ∀ m ∈ p.ms, 0 ≤ m.a ∧ m.a < m.b ∧ m.b ≤ p.ws.length - 1 := by
 simp only [Piece.ok, Bool.and_eq_true] at h
 exact mssOk_lt h.1.2
theorem mesh_same {p : Piece} (h : ∀ m ∈ p.ms, m.a < m.b) (a b : Int) : p.mesh a b = p.rmeshed a b := by
 rw [Bool.eq_iff_iff, Piece.mesh, List.contains_iff_mem, Piece.rmeshed, List.any_eq_true]
 constructor
 ·intro hm
  refine ⟨_, hm, ?_⟩
  simp only [Bool.or_eq_true, Bool.and_eq_true, beq_iff_eq]
  omega
 ·rintro ⟨⟨x, y⟩, hm, he⟩
  have := h _ hm
  simp only [Bool.or_eq_true, Bool.and_eq_true, beq_iff_eq] at he this
  have e : (⟨min a b, max a b⟩ : Ms) = ⟨x, y⟩ := by
   rw [Ms.mk.injEq]; omega
  rw [e]; exact hm
theorem far_comm (p : Piece) (a b : Int) : p.far b a = p.far a b := by
 have e : ∀ x y : Int, sq (x - y) = sq (y - x) := fun x y => by
  rw [sq, sq, ← Int.neg_sub y x, Int.neg_mul_neg]
 rw [Piece.far, Piece.far, e (p.pt b).x, e (p.pt b).y]
end Go.Tel
open Nat renaming reduceBEq → qA, reduceAdd → qB, reduceSub → qC, reduceEqDiff → qD, reduceLT → qE, reduceLeDiff → qF
namespace Go.Tel
open Go.Am
end Go.Tel
open Nat renaming reduceBEq → qA, reduceAdd → qB, reduceSub → qC, reduceEqDiff → qD, reduceLT → qE, reduceLeDiff → qF
namespace Go.Tel
open Go.Am
theorem clash_comm (p : Piece) (a b : Int) : p.clash a b = p.clash b a := by
 have h1 : p.mesh a b = p.mesh b a := by rw [Piece.mesh, Piece.mesh, Int.min_comm, Int.max_comm]
 have h2 : p.centred a b = p.centred b a := by
  simp only [Piece.centred]
  rw [Bool.eq_iff_iff, beq_iff_eq, beq_iff_eq]
  exact ⟨Eq.symm, Eq.symm⟩
 rw [Piece.clash, Piece.clash, h1, h2, far_comm p a b, Piece.sum, Piece.sum, Int.add_comm (p.wh a).teeth]
set_option maxRecDepth 10000 in
theorem rClash_c (p : Piece) (hg : p.good) (hms : ∀ m ∈ p.ms, m.a < m.b) (hl : p.ms.length ≤ 1000) (a b : Int) (ha : p.isW a) (hb : p.isW b) : Pure C F.ref_Clash [p.dv, .int .i64 a, .int .i64 b] (.d (.bool (p.clash a b))) [] := by
 obtain ⟨⟨a3, a4⟩, t1, t2, _⟩ := good_wh hg ha
 obtain ⟨⟨b3, b4⟩, t3, t4, _⟩ := good_wh hg hb
 obtain ⟨a1, a2⟩ := id ha
 obtain ⟨b1, b2⟩ := id hb
 have hga := hg.ga
 have hm := rMeshed_c p a b hl
 have w1 : IntKind.i64.wrap ((p.ws.getD a.toNat default).teeth + (p.ws.getD b.toNat default).teeth) = p.sum a b := w64_in (by omega)
 have sb : 0 ≤ p.sum a b ∧ p.sum a b ≤ 2000 := by simp only [Piece.sum, Piece.wh]; omega
 have w3 : IntKind.i64.wrap (p.sum a b + p.ga) = p.sum a b + p.ga := w64_in (by omega)
 have hn := rnear_c p hg a b ha hb (p.sum a b + p.ga) (by omega)
 have e0 : p.clash a b = (!p.rmeshed a b && (p.centred a b || p.rnear a b (p.sum a b + p.ga))) := by rw [Piece.clash, mesh_same hms]; rfl
 rw [dv_Piece] at hm hn
 refine pure_of_pwp_d mixed rfl ok_ref_Clash ?_
 simp only [pc_ref_Clash, rs_ref_Clash, dv_Piece, dv_Wh, getD_map, a1, a2, b1, b2, List.length_map, List.not_mem_nil, RN, qA, qB, qC, qD, qE, qF]
 refine call_d rfl rfl hm ?_
 rw [e0]
 cases p.rmeshed a b
 case true => simp only [Bool.not_true, Bool.false_and, RN, qA, qB, qC, qD, qE, qF]
 have hC : p.centred a b = ((p.ws.getD a.toNat default).centre == (p.ws.getD b.toNat default).centre) := rfl
 cases hc : ((p.ws.getD a.toNat default).centre == (p.ws.getD b.toNat default).centre)
 case true =>
  rw [hC, hc]
  simp only [Bool.not_false, Bool.true_or, Bool.true_and, RN, qA, qB, qC, qD, qE, qF]
 rw [hC, hc]
 simp only [a1, a2, b1, b2, dv_Wh, getD_map, List.length_map, w1, w3, List.not_mem_nil, RN, qA, qB, qC, qD, qE, qF]
 refine call_d rfl rfl hn ?_
 simp only [Bool.not_false, Bool.false_or, Bool.true_and, RN, qA, qB, qC, qD, qE, qF]
set_option maxRecDepth 10000 in
set_option maxHeartbeats 2000000 in
theorem rGroups_c (p : Piece) (hw : p.ws.length ≤ 1000) (hm : p.ms.length ≤ 1000) (hms : ∀ m ∈ p.ms, p.isW m.a ∧ p.isW m.b) : Pure C F.ref_Groups [p.dv] (.d (.slice false (p.groups.map intDV))) [] := by
 refine pure_of_pwp_fs mixed rfl ok_ref_Groups ?_
 simp only [pc_ref_Groups, rs_ref_Groups, dv_Piece, List.length_map, List.not_mem_nil, RN, qA, qB, qC, qD, qE, qF]
 refine pwp_range p.ws.length (fun i (_ : Unit) => ⟨[(1, .d (.cptr p.cells)), (3, .tsl 1 i 0), (4, .d (.int .i64 i))], ⟨[some (p.cells.map .d)], [0], [some ⟨1, [], 0, 0⟩, some ⟨1, (upTo i).map intDV, i, min i 1⟩]⟩⟩)
  (fun _ _ => True) 0 () (Nat.zero_le _) rfl trivial (fun i _ h1 _ => ?_) (fun _ _ => ?_)
 ·obtain ⟨h2, h3, h6⟩ := rng h1 (by omega)
  have hlu : ((upTo i).map intDV).length + 1 ≤ 1073741824 := by simp [upTo_len]; omega
  have hst : min i 1 ≠ 2 := by omega
  simp only [Piece.cells, h2, h6, ev_mkSl1, fits_int, forall_eq, DV.strip, dcells_int, List.length_map, RN, qA, qB, qC, qD, qE, qF]
  refine ⟨by simp, hst, by rw [List.length_map] at hlu; omega, ?_⟩
  refine up_same () h1 ?_ trivial (by simp) (by simp) ?_ rfl
  ·rw [upTo_succ, List.map_append, List.map_cons, List.map_nil, dv_int, show min (i + 1) 1 = 1 by omega]; rfl
  ·simp [PV.upto]
 ·simp only [Int.lt_irrefl, List.length_map, Piece.cells, RN, qA, qB, qC, qD, qE, qF]
  refine pwp_range p.ws.length (fun i (G : List Int) => ⟨[(1, .d (.cptr p.cells)), (3, .tsl 1 p.ws.length 0), (5, .d (.int .i64 i))], ⟨[some (p.cells.map .d)], [0], [some ⟨1, [], 0, 0⟩, some ⟨1, G.map intDV, p.ws.length, min p.ws.length 1⟩]⟩⟩)
   (fun i G => G.length = p.ws.length ∧ p.groups = grpN p.ms (p.ws.length - i) G) 0 (upTo p.ws.length) (Nat.zero_le _) rfl ⟨upTo_len _, rfl⟩ (fun i G h1 hix => ?_) (fun G hix => ?_)
  ·obtain ⟨h2, h3, h6⟩ := rng h1 (by omega)
   obtain ⟨hG, hix⟩ := hix
   have hmin : min p.ws.length 1 = 1 := by omega
   rw [show p.ws.length - i = (p.ws.length - (i + 1)) + 1 by omega, grpN] at hix
   simp only [h2, List.length_map, Piece.cells, hmin, RN, qA, qB, qC, qD, qE, qF]
   refine pwp_range p.ms.length (fun j (G : List Int) => ⟨[(1, .d (.cptr p.cells)), (3, .tsl 1 p.ws.length 0), (5, .d (.int .i64 i)), (6, .d (.int .i64 j))],
     ⟨[some (p.cells.map .d)], [0], [some ⟨1, [], 0, 0⟩, some ⟨1, G.map intDV, p.ws.length, 1⟩]⟩⟩)
    (fun j G' => G'.length = p.ws.length ∧ grpM p.ms G = grpM (p.ms.drop j) G') 0 G (Nat.zero_le _) rfl ⟨hG, rfl⟩ (fun j G' g1 hjx => ?_) (fun G' hjx => ?_)
   ·obtain ⟨g2, g3, g6⟩ := rng g1 (by omega)
    obtain ⟨hG', hjx⟩ := hjx
    rw [drop_cons g1, grpM] at hjx
    obtain ⟨⟨a1, a2⟩, b1, b2⟩ := hms _ (getD_mem g1)
    rw [← hG'] at a2 b2
    simp only [g2, g3, g1, g6, getD_map, getD_mapI, Int.toNat_natCast, List.length_map, Piece.cells, dv_Ms, a1, a2, b1, b2, minmax_f, List.not_mem_nil, dv_int, minmax_m, RN, qA, qB, qC, qD, qE, qF]
    refine store_ei (xs := G') rfl a2 ?_
    simp only [List.length_map, List.length_set, a1, a2, b1, b2, RN, qA, qB, qC, qD, qE, qF]
    refine store_ei (xs := G'.set _ _) rfl (by simpa using b2) ?_
    simp only [g6, RN, qA, qB, qC, qD, qE, qF]
    refine up_take 1 2 _ g1 ?_ ⟨?_, hjx⟩ (by simp) (by simp) ?_ ?_
    ·rfl
    ·simp [hG']
    ·simp [PV.upto]
    ·simp [PV.upto, Piece.cells]
   ·obtain ⟨hG', hjx⟩ := hjx
    rw [List.drop_length, grpM] at hjx
    simp only [Int.lt_irrefl, List.length_map, Piece.cells, h6, RN, qA, qB, qC, qD, qE, qF]
    refine up_same G' h1 ?_ ⟨hG', by rw [hix, hjx]⟩ (by simp) (by simp) ?_ ?_
    ·rfl
    ·simp [PV.upto]
    ·simp [PV.upto, Piece.cells]
  ·obtain ⟨hG, hix⟩ := hix
   rw [Nat.sub_self, grpN] at hix
   simp only [Int.lt_irrefl, List.length_map, Piece.cells, RN, qA, qB, qC, qD, qE, qF]
   exact ⟨_, datum_tsl (k := 1) rfl rfl, by rw [hix]; rfl⟩
def Piece.rstiffR (p : Piece) (a : Nat) (l : List Nat) : Bool := l.any fun b => (p.groups.getD a default == p.groups.getD b default) && p.clash a b
def Piece.rstiff (p : Piece) : Bool := (List.range p.ws.length).any fun a => p.rstiffR a (List.range a)
set_option maxRecDepth 10000 in
set_option maxHeartbeats 2000000 in
theorem rStiff_c (p : Piece) (hok : p.ok = true) : Pure C F.ref_Stiff [p.dv] (.d (.bool p.rstiff)) [] := by
 have hg := Piece.ok_good hok
 have hlen := Piece.ok_lens hok
 have hms : ∀ m ∈ p.ms, m.a < m.b := fun m hm => (ok_mss hok m hm).2.1
 have hG := groups_len p
 have h1 := rGroups_c p (by omega) (by omega) (Piece.ok_ms hok)
 have h2 := fun a b ha hb => rClash_c p hg hms (by omega) a b ha hb
 rw [dv_Piece] at h1
 simp only [dv_Piece] at h2
 have lg : ((p.groups.length : Nat) : Int) = (p.ws.length : Int) := by rw [hG]
 refine pure_of_pwp_d mixed rfl ok_ref_Stiff ?_
 simp only [pc_ref_Stiff, rs_ref_Stiff, dv_Piece, List.not_mem_nil, RN, qA, qB, qC, qD, qE, qF]
 refine call_d rfl rfl h1 ?_
 simp only [RN, qA, qB, qC, qD, qE, qF]
 refine pwp_range p.ws.length (fun i (_ : Unit) => ⟨[(1, .d (.cptr p.cells)), (3, .d (.slice false (p.groups.map intDV))), (4, .d (.int .i64 i))], ⟨[some (p.cells.map .d)], [0], []⟩⟩)
  (fun i _ => p.rstiff = ((List.range p.ws.length).drop i).any fun a => p.rstiffR a (List.range a)) 0 () (Nat.zero_le _) rfl rfl (fun i _ g1 hix => ?_) (fun _ hix => ?_)
 ·obtain ⟨g2, g3, g6⟩ := rng g1 (by omega)
  rw [drop_cons (by simpa using g1), range_getD g1, List.any_cons] at hix
  simp only [Piece.cells, List.length_map, lg, g2, RN, qA, qB, qC, qD, qE, qF]
  refine pwp_range i (fun j (_ : Unit) => ⟨[(1, .d (.cptr p.cells)), (3, .d (.slice false (p.groups.map intDV))), (4, .d (.int .i64 i)), (5, .d (.int .i64 j))], ⟨[some (p.cells.map .d)], [0], []⟩⟩)
   (fun j _ => p.rstiffR i (List.range i) = p.rstiffR i ((List.range i).drop j)) 0 () (Nat.zero_le _) rfl rfl (fun j _ f1 hjx => ?_) (fun _ hjx => ?_)
  ·obtain ⟨f2, f3, f6⟩ := rng f1 (by omega)
   rw [drop_cons (by simpa using f1), range_getD f1] at hjx
   have hjx : p.rstiffR i (List.range i) = (((p.groups.getD i default == p.groups.getD j default) && p.clash i j) || p.rstiffR i ((List.range i).drop (j + 1))) := by rw [hjx]; rfl
   have hiG : i < p.groups.length := by omega
   have hjG : j < p.groups.length := by omega
   have hcl := h2 i j ⟨g3, by simpa using g1⟩ ⟨f3, by simpa using (show j < p.ws.length by omega)⟩
   cases hA : (p.groups.getD i default == p.groups.getD j default)
   ·rw [hA, Bool.false_and, Bool.false_or] at hjx
    simp only [Piece.cells, f2, f3, g3, hiG, hjG, getD_mapI, Int.toNat_natCast, List.length_map, hA, f6, RN, qA, qB, qC, qD, qE, qF]
    exact up_same () f1 rfl hjx (by simp) (by simp) rfl rfl
   ·rw [hA, Bool.true_and] at hjx
    simp only [Piece.cells, f2, f3, g3, hiG, hjG, getD_mapI, Int.toNat_natCast, List.length_map, hA, List.not_mem_nil, RN, qA, qB, qC, qD, qE, qF]
    refine call_d rfl rfl hcl ?_
    cases hC : p.clash i j
    ·rw [hC, Bool.false_or] at hjx
     simp only [f6, RN, qA, qB, qC, qD, qE, qF]
     exact up_same () f1 rfl hjx (by simp) (by simp) rfl rfl
    ·rw [hC, Bool.true_or] at hjx
     simp only [RN, qA, qB, qC, qD, qE, qF]
     rw [hix, hjx, Bool.true_or]
  ·rw [List.drop_eq_nil_of_le (by simp)] at hjx
   have hjx : p.rstiffR i (List.range i) = false := hjx
   rw [hjx, Bool.false_or] at hix
   simp only [Piece.cells, Int.lt_irrefl, g6, RN, qA, qB, qC, qD, qE, qF]
   exact up_same () g1 rfl hix (by simp) (by simp) rfl rfl
 ·rw [List.drop_eq_nil_of_le (by simp), List.any_nil] at hix
  simp only [Piece.cells, Int.lt_irrefl, List.length_map, lg, RN, qA, qB, qC, qD, qE, qF]
  rw [hix]
def Piece.rlayB (p : Piece) (l : List Int) (a b : Nat) : Bool := (p.groups.getD a default == p.groups.getD b default && l.getD a default != l.getD b default) || (l.getD a default == l.getD b default && p.clash a b)
def Piece.rlayR (p : Piece) (l : List Int) (a : Nat) (L : List Nat) : Bool := L.all fun b => !p.rlayB l a b
def Piece.rlay (p : Piece) (l : List Int) : Bool := (List.range l.length).all fun a => inR (l.getD a default) 0 5 && p.rlayR l a (List.range a)
set_option maxRecDepth 10000 in
set_option maxHeartbeats 4000000 in
theorem rLaying_c (p : Piece) (hok : p.ok = true) (l : List Int) (hl : l.length ≤ p.ws.length) : Pure C F.ref_Laying [p.dv, .slice false (l.map intDV)] (.d (.bool (p.rlay l))) [] := by
 have hg := Piece.ok_good hok
 have hlen := Piece.ok_lens hok
 have hms : ∀ m ∈ p.ms, m.a < m.b := fun m hm => (ok_mss hok m hm).2.1
 have hG := groups_len p
 have h1 := rGroups_c p (by omega) (by omega) (Piece.ok_ms hok)
 have h2 := fun a b ha hb => rClash_c p hg hms (by omega) a b ha hb
 rw [dv_Piece] at h1
 simp only [dv_Piece] at h2
 refine pure_of_pwp_d mixed rfl ok_ref_Laying ?_
 simp only [pc_ref_Laying, rs_ref_Laying, dv_Piece, List.not_mem_nil, RN, qA, qB, qC, qD, qE, qF]
 refine call_d rfl rfl h1 ?_
 simp only [RN, qA, qB, qC, qD, qE, qF]
 refine pwp_range l.length (fun i (_ : Unit) => ⟨[(1, .d (.slice false (l.map intDV))), (2, .d (.cptr p.cells)), (5, .d (.slice false (p.groups.map intDV))), (6, .d (.int .i64 i))], ⟨[some (p.cells.map .d)], [0], []⟩⟩)
  (fun i _ => p.rlay l = ((List.range l.length).drop i).all fun a => inR (l.getD a default) 0 5 && p.rlayR l a (List.range a)) 0 () (Nat.zero_le _) rfl rfl (fun i _ g1 hix => ?_) (fun _ hix => ?_)
 ·obtain ⟨g2, g3, g6⟩ := rng g1 (by omega)
  rw [drop_cons (by simpa using g1), range_getD g1, List.all_cons] at hix
  simp only [Piece.cells, List.length_map, g1, g2, g3, getD_map, dv_int, Int.toNat_natCast, RN, qA, qB, qC, qD, qE, qF]
  refine call_d rfl rfl (rin_c _ _ _) ?_
  cases hI : inR (l.getD i default) 0 5
  ·rw [hI, Bool.false_and, Bool.false_and] at hix
   simp only [RN, qA, qB, qC, qD, qE, qF]
   rw [hix]
  rw [hI, Bool.true_and] at hix
  simp only [RN, qA, qB, qC, qD, qE, qF]
  refine pwp_range i (fun j (_ : Unit) => ⟨[(1, .d (.slice false (l.map intDV))), (2, .d (.cptr p.cells)), (5, .d (.slice false (p.groups.map intDV))), (6, .d (.int .i64 i)), (7, .d (.int .i64 j))], ⟨[some (p.cells.map .d)], [0], []⟩⟩)
   (fun j _ => p.rlayR l i (List.range i) = p.rlayR l i ((List.range i).drop j)) 0 () (Nat.zero_le _) rfl rfl (fun j _ f1 hjx => ?_) (fun _ hjx => ?_)
  ·obtain ⟨f2, f3, f6⟩ := rng f1 (by omega)
   rw [drop_cons (by simpa using f1), range_getD f1] at hjx
   have hjx : p.rlayR l i (List.range i) = (!p.rlayB l i j && p.rlayR l i ((List.range i).drop (j + 1))) := by rw [hjx]; rfl
   have hiG : i < p.groups.length := by omega
   have hjG : j < p.groups.length := by omega
   have hjl : j < l.length := by omega
   have hcl := h2 i j ⟨g3, by simpa using (show i < p.ws.length by omega)⟩ ⟨f3, by simpa using (show j < p.ws.length by omega)⟩
   have hB : p.rlayB l i j = ((p.groups.getD i default == p.groups.getD j default && !(l.getD i default == l.getD j default)) || (l.getD i default == l.getD j default && p.clash i j)) := rfl
   have hne : (l.getD i default != l.getD j default) = !(l.getD i default == l.getD j default) := rfl
   cases hA : (p.groups.getD i default == p.groups.getD j default) <;> cases hN : (l.getD i default == l.getD j default) <;> rw [hN] at hne <;> rw [hA, hN] at hB
   ·have hB : p.rlayB l i j = false := hB
    rw [hB, Bool.not_false, Bool.true_and] at hjx
    simp only [Piece.cells, f2, f3, g3, g1, hjl, hiG, hjG, getD_map, getD_mapI, dv_int, Int.toNat_natCast, List.length_map, hA, hN, hne, Bool.not_false, f6, List.not_mem_nil, RN, qA, qB, qC, qD, qE, qF]
    exact up_same () f1 rfl hjx (by simp) (by simp) rfl rfl
   ·have hB : p.rlayB l i j = p.clash i j := hB
    rw [hB] at hjx
    simp only [Piece.cells, f2, f3, g3, g1, hjl, hiG, hjG, getD_map, getD_mapI, dv_int, Int.toNat_natCast, List.length_map, hA, hN, hne, Bool.not_true, List.not_mem_nil, RN, qA, qB, qC, qD, qE, qF]
    refine call_d rfl rfl hcl ?_
    cases hC : p.clash i j
    ·rw [hC, Bool.not_false, Bool.true_and] at hjx
     simp only [f6, RN, qA, qB, qC, qD, qE, qF]
     exact up_same () f1 rfl hjx (by simp) (by simp) rfl rfl
    ·rw [hC, Bool.not_true, Bool.false_and] at hjx
     simp only [RN, qA, qB, qC, qD, qE, qF]
     rw [hix, hjx, Bool.false_and]
   ·have hB : p.rlayB l i j = true := hB
    rw [hB, Bool.not_true, Bool.false_and] at hjx
    simp only [Piece.cells, f2, f3, g3, g1, hjl, hiG, hjG, getD_map, getD_mapI, dv_int, Int.toNat_natCast, List.length_map, hA, hN, hne, Bool.not_false, List.not_mem_nil, RN, qA, qB, qC, qD, qE, qF]
    rw [hix, hjx, Bool.false_and]
   ·have hB : p.rlayB l i j = p.clash i j := hB
    rw [hB] at hjx
    simp only [Piece.cells, f2, f3, g3, g1, hjl, hiG, hjG, getD_map, getD_mapI, dv_int, Int.toNat_natCast, List.length_map, hA, hN, hne, Bool.not_true, List.not_mem_nil, RN, qA, qB, qC, qD, qE, qF]
    refine call_d rfl rfl hcl ?_
    cases hC : p.clash i j
    ·rw [hC, Bool.not_false, Bool.true_and] at hjx
     simp only [f6, RN, qA, qB, qC, qD, qE, qF]
     exact up_same () f1 rfl hjx (by simp) (by simp) rfl rfl
    ·rw [hC, Bool.not_true, Bool.false_and] at hjx
     simp only [RN, qA, qB, qC, qD, qE, qF]
     rw [hix, hjx, Bool.false_and]
  ·rw [List.drop_eq_nil_of_le (by simp)] at hjx
   have hjx : p.rlayR l i (List.range i) = true := hjx
   rw [hjx, Bool.true_and] at hix
   simp only [Piece.cells, Int.lt_irrefl, g6, RN, qA, qB, qC, qD, qE, qF]
   exact up_same () g1 rfl hix (by simp) (by simp) rfl rfl
 ·rw [List.drop_eq_nil_of_le (by simp), List.all_nil] at hix
  simp only [Piece.cells, Int.lt_irrefl, List.length_map, RN, qA, qB, qC, qD, qE, qF]
  rw [hix]
end Go.Tel
namespace Go.Tel
open Go.Am
def Piece.rlaid (p : Piece) (most : Nat) : Nat → List Int → Option (List Int)
 | 0, now => if p.rlay now then some now else none
 | r + 1, now => if p.rlay now then (upTo (most + 1)).findSome? fun n => p.rlaid most r (now ++ [n]) else none
theorem badL_any (p : Piece) (G : List Int) (i : Nat) (n : Int) : ∀ (xs : List Int) (k : Nat), badL p G i n k xs = (List.range xs.length).any fun j => (G.getD (k + j) default == G.getD i default && xs.getD j default != n) || (xs.getD j default == n && p.clash ((k + j : Nat) : Int) i)
 | [], k => by simp [badL]
 | x :: xs, k => by
  rw [badL, badL_any p G i n xs (k + 1), List.length_cons, List.range_succ_eq_map, List.any_cons, List.any_map]
  congr 1
  congr 1
  funext j
  simp only [Function.comp_apply, Nat.succ_eq_add_one, List.getD_cons_succ]
  rw [show k + 1 + j = k + (j + 1) by omega]
theorem getD_app {α : Type} [Inhabited α] {l : List α} {x : α} {i : Nat} (h : i < l.length) : (l ++ [x]).getD i default = l.getD i default := by
 rw [List.getD_eq_getElem?_getD, List.getElem?_append_left h, List.getD_eq_getElem?_getD]
theorem getD_app_len {α : Type} [Inhabited α] {l : List α} {x : α} : (l ++ [x]).getD l.length default = x := by
 rw [List.getD_eq_getElem?_getD, List.getElem?_append_right (Nat.le_refl _), Nat.sub_self]; rfl
theorem all_congr' {α : Type} {f g : α → Bool} {l : List α} (h : ∀ x ∈ l, f x = g x) : l.all f = l.all g := by
 rw [Bool.eq_iff_iff, List.all_eq_true, List.all_eq_true]
 exact ⟨fun hf x hx => h x hx ▸ hf x hx, fun hf x hx => (h x hx).symm ▸ hf x hx⟩
theorem rlayR_bad (p : Piece) (now : List Int) (n : Int) : p.rlayR (now ++ [n]) now.length (List.range now.length) = !badL p p.groups now.length n 0 now := by
 rw [badL_any, Piece.rlayR, List.not_any_eq_all_not]
 refine all_congr' fun j hj => ?_
 have hj := List.mem_range.1 hj
 rw [Piece.rlayB, getD_app hj, getD_app_len, Nat.zero_add, clash_comm]
 have e1 : (p.groups.getD now.length default == p.groups.getD j default) = (p.groups.getD j default == p.groups.getD now.length default) := by rw [Bool.eq_iff_iff, beq_iff_eq, beq_iff_eq]; exact ⟨Eq.symm, Eq.symm⟩
 have e2 : (n == now.getD j default) = (now.getD j default == n) := by rw [Bool.eq_iff_iff, beq_iff_eq, beq_iff_eq]; exact ⟨Eq.symm, Eq.symm⟩
 have e3 : (n != now.getD j default) = (now.getD j default != n) := by rw [bne, bne, e2]
 rw [e1, e2, e3]
theorem rlay_snoc (p : Piece) (now : List Int) (n : Int) : p.rlay (now ++ [n]) = (p.rlay now && (inR n 0 5 && !badL p p.groups now.length n 0 now)) := by
 rw [Piece.rlay, List.length_append, List.length_singleton, List.range_succ, List.all_append, List.all_cons, List.all_nil, Bool.and_true, getD_app_len, rlayR_bad]
 congr 1
 rw [Piece.rlay]
 refine all_congr' fun a ha => ?_
 have ha := List.mem_range.1 ha
 rw [getD_app ha]
 congr 1
 rw [Piece.rlayR, Piece.rlayR]
 refine all_congr' fun b hb => ?_
 have hb := List.mem_range.1 hb
 rw [Piece.rlayB, Piece.rlayB, getD_app ha, getD_app (show b < now.length by omega)]
theorem findSome_congr {α β : Type} {f g : α → Option β} {l : List α} (h : ∀ x ∈ l, f x = g x) : l.findSome? f = l.findSome? g := by
 induction l with
 | nil => rfl
 | cons a l ih => rw [List.findSome?_cons, List.findSome?_cons, h a List.mem_cons_self, ih fun x hx => h x (List.mem_cons_of_mem _ hx)]
theorem mem_upTo' {n : Nat} {x : Int} : x ∈ upTo n ↔ 0 ≤ x ∧ x < n := by
 rw [upTo, List.mem_map]
 constructor
 ·rintro ⟨i, hi, rfl⟩
  have := List.mem_range.1 hi
  exact ⟨Int.natCast_nonneg _, by simpa using this⟩
 ·rintro ⟨h1, h2⟩
  obtain ⟨i, rfl⟩ := Int.eq_ofNat_of_zero_le h1
  exact ⟨i, List.mem_range.2 (by omega), rfl⟩
theorem rlaid_same {p : Piece} {most : Nat} (hm : most ≤ 5) : ∀ (r : Nat) (now : List Int), p.rlaid most r now = if p.rlay now then layS p p.groups most r now else none
 | 0, now => by rw [Piece.rlaid, layS]
 | r + 1, now => by
  rw [Piece.rlaid, layS]
  cases h : p.rlay now
  ·rfl
  ·rw [if_pos rfl, if_pos rfl]
   refine findSome_congr fun n hn => ?_
   have hn := mem_upTo'.1 hn
   have hi : inR n 0 5 = true := by simp only [inR, Bool.and_eq_true, decide_eq_true_eq]; omega
   rw [rlaid_same hm r, rlay_snoc, h, hi]
   cases badL p p.groups now.length n 0 now <;> rfl
theorem mem_drop_range0 {n a x : Nat} : x ∈ (List.range n).drop a ↔ a ≤ x ∧ x < n := by
 rw [List.mem_iff_getElem?]
 constructor
 ·rintro ⟨i, hi⟩
  rw [List.getElem?_drop] at hi
  obtain ⟨h1, h2⟩ := List.getElem?_eq_some_iff.1 hi
  simp at h1 h2
  omega
 ·rintro ⟨h1, h2⟩
  refine ⟨x - a, ?_⟩
  rw [List.getElem?_drop, show a + (x - a) = x by omega, List.getElem?_range h2]
theorem mem_pairs1 {n : Nat} {gone : List Int} {a b : Nat} : (a, b) ∈ pairsL n gone ↔ a ≤ b ∧ b < n ∧ gone.contains (a : Int) = false ∧ gone.contains (b : Int) = false := by
 rw [pairsL, List.mem_flatMap]
 constructor
 ·rintro ⟨a', ha', h⟩
  obtain ⟨b', hb', h⟩ := List.mem_filterMap.1 h
  split at h
  ·cases h
  ·rename_i hc
   cases h
   have := mem_drop_range0.1 hb'
   simp only [Bool.or_eq_true, not_or, Bool.not_eq_true] at hc
   exact ⟨this.1, this.2, hc.1, hc.2⟩
 ·rintro ⟨h1, h2, h3, h4⟩
  refine ⟨a, List.mem_range.2 (by omega), List.mem_filterMap.2 ⟨b, mem_drop_range0.2 ⟨h1, h2⟩, ?_⟩⟩
  rw [h3, h4]; rfl
theorem mem_pairs0 {n a b : Nat} : (a, b) ∈ pairsL n [] ↔ a ≤ b ∧ b < n := by rw [mem_pairs1]; simp
theorem stiff_same (p : Piece) : p.rstiff = p.stiff := by
 rw [Bool.eq_iff_iff, Piece.rstiff, Piece.stiff, List.any_eq_true, List.any_eq_true]
 constructor
 ·rintro ⟨a, ha, h⟩
  rw [Piece.rstiffR, List.any_eq_true] at h
  obtain ⟨b, hb, h⟩ := h
  have ha := List.mem_range.1 ha
  have hb := List.mem_range.1 hb
  rw [Bool.and_eq_true] at h
  refine ⟨(b, a), mem_pairs0.2 ⟨by omega, ha⟩, ?_⟩
  have e1 : ((b : Int) != (a : Int)) = true := bne_iff_ne.2 (by omega)
  have e2 : (p.groups.getD b default == p.groups.getD a default) = true := beq_iff_eq.2 (beq_iff_eq.1 h.1).symm
  rw [Piece.stiffAt, e1, e2, clash_comm]
  exact h.2
 ·rintro ⟨⟨b, a⟩, hq, h⟩
  obtain ⟨h1, h2⟩ := mem_pairs0.1 hq
  simp only [Piece.stiffAt, Bool.and_eq_true, bne_iff_ne, beq_iff_eq] at h
  obtain ⟨⟨e1, e2⟩, e3⟩ := h
  refine ⟨a, List.mem_range.2 h2, ?_⟩
  rw [Piece.rstiffR, List.any_eq_true]
  refine ⟨b, List.mem_range.2 (by omega), ?_⟩
  rw [Bool.and_eq_true, beq_iff_eq, clash_comm]
  exact ⟨e2.symm, e3⟩
end Go.Tel
open Nat renaming reduceBEq → qA, reduceAdd → qB, reduceSub → qC, reduceEqDiff → qD, reduceLT → qE, reduceLeDiff → qF
namespace Go.Tel
open Go.Am
theorem rlaid_len {p : Piece} {most : Nat} : ∀ {r : Nat} {now x : List Int}, p.rlaid most r now = some x → x.length = now.length + r
 | 0, now, x, h => by
  rw [Piece.rlaid] at h
  split at h
  ·cases h; rfl
  ·cases h
 | r + 1, now, x, h => by
  rw [Piece.rlaid] at h
  split at h
  ·obtain ⟨n, _, hn⟩ := List.exists_of_findSome?_eq_some h
   have := rlaid_len hn
   rw [List.length_append, List.length_singleton] at this
   omega
  ·cases h
set_option maxRecDepth 10000 in
set_option maxHeartbeats 4000000 in
theorem rlaid_c (p : Piece) (hok : p.ok = true) (most : Nat) (hmo : most ≤ 5) : ∀ (r : Nat) (now : List Int), now.length + r = p.ws.length →
  Pure C F.ref_laid [p.dv, .slice false (now.map intDV), .int .i64 most] (.d (.tup [bestD (p.rlaid most r now), .bool (p.rlaid most r now).isSome])) [] := by
 have hlen := Piece.ok_lens hok
 intro r
 induction r with
 | zero =>
  intro now hnl
  have h1 := rLaying_c p hok now (by omega)
  rw [dv_Piece] at h1
  have e : ((now.length : Int) == (p.ws.length : Int)) = true := beq_iff_eq.2 (by omega)
  refine pure_of_pwp_d mixed rfl ok_ref_laid ?_
  simp only [pc_ref_laid, rs_ref_laid, dv_Piece, List.not_mem_nil, RN, qA, qB, qC, qD, qE, qF]
  refine call_d rfl rfl h1 ?_
  cases h : p.rlay now
  ·have e1 : p.rlaid most 0 now = none := by rw [Piece.rlaid, h]; rfl
   simp only [Bool.not_false, e1, bestD_n, Option.isSome_none, RN, qA, qB, qC, qD, qE, qF]
  ·have e1 : p.rlaid most 0 now = some now := by rw [Piece.rlaid, h]; rfl
   simp only [Bool.not_true, e1, bestD_s, Option.isSome_some, List.length_map, e, RN, qA, qB, qC, qD, qE, qF]
 | succ r ih =>
  intro now hnl
  have h1 := rLaying_c p hok now (by omega)
  rw [dv_Piece] at h1 ih
  have e : ((now.length : Int) == (p.ws.length : Int)) = false := beq_eq_false_iff_ne.2 (by omega)
  refine pure_of_pwp_d mixed rfl ok_ref_laid ?_
  simp only [pc_ref_laid, rs_ref_laid, dv_Piece, List.not_mem_nil, RN, qA, qB, qC, qD, qE, qF]
  refine call_d rfl rfl h1 ?_
  cases h : p.rlay now
  ·have e1 : p.rlaid most (r + 1) now = none := by rw [Piece.rlaid, h]; rfl
   simp only [Bool.not_false, e1, bestD_n, Option.isSome_none, RN, qA, qB, qC, qD, qE, qF]
  have e1 : p.rlaid most (r + 1) now = (upTo (most + 1)).findSome? fun n => p.rlaid most r (now ++ [n]) := by rw [Piece.rlaid, h]; rfl
  simp only [Bool.not_true, List.length_map, e, RN, qA, qB, qC, qD, qE, qF]
  refine pwp_range (most + 1) (fun i (_ : Unit) => ⟨[(1, .d (.slice false (now.map intDV))), (2, .d (.int .i64 most)), (3, .d (.cptr p.cells)), (8, .d (.int .i64 i))], ⟨[some (p.cells.map .d)], [0], []⟩⟩)
   (fun i _ => p.rlaid most (r + 1) now = ((upTo (most + 1)).drop i).findSome? fun n => p.rlaid most r (now ++ [n])) 0 () (Nat.zero_le _) rfl e1 (fun i _ g1 hix => ?_) (fun _ hix => ?_)
  ·obtain ⟨g2, g3, g6⟩ := rng g1 (by omega)
   have g4 : (i : Int) ≤ (most : Int) := by omega
   rw [drop_cons (by rw [upTo_len]; exact g1), upTo_getD g1, List.findSome?_cons] at hix
   have hi := ih (now ++ [(i : Int)]) (by rw [List.length_append, List.length_singleton]; omega)
   have e2 : (now ++ [(i : Int)]).map intDV = now.map intDV ++ [.int .i64 i] := by simp [intDV]
   rw [e2] at hi
   simp only [Piece.cells, g4, RN, qA, qB, qC, qD, qE, qF]
   refine ⟨fun y hy => by obtain ⟨z, _, rfl⟩ := List.mem_map.1 hy; rfl, fun hh => (by cases hh), fun _ hf => hf.elim, by rw [List.length_map]; omega, rfl, ?_⟩
   simp only [DV.strip]
   refine ev_appF (k := 0) (sz := 1) (xs := now.map intDV) (ys := [.int .i64 (i : Int)]) (ver := 0) (st := 0) (skip := 0) rfl (by decide) (by decide) (by simp [DV.fits, DV.cells, DV.one]) (by simp; omega) ?_
   rw [List.drop_zero]
   simp only [RN, qA, qB, qC, qD, qE, qF]
   refine call_d rfl rfl hi ?_
   cases hL : p.rlaid most r (now ++ [(i : Int)]) with
   | none =>
    rw [hL] at hix
    simp only [Option.isSome_none, bestD_n, g6, RN, qA, qB, qC, qD, qE, qF]
    exact up_take 1 0 () g1 rfl hix (by simp) (by simp) rfl rfl
   | some x =>
    rw [hL] at hix
    simp only [Option.isSome_some, bestD_s, RN, qA, qB, qC, qD, qE, qF]
    rw [hix]
    rfl
  ·rw [List.drop_eq_nil_of_le (by rw [upTo_len]; exact Nat.le_refl _), List.findSome?_nil] at hix
   have g4 : ¬ ((most + 1 : Nat) : Int) ≤ (most : Int) := by omega
   simp only [Piece.cells, g4, hix, bestD_n, Option.isSome_none, RN, qA, qB, qC, qD, qE, qF]
def Piece.rlayers (p : Piece) : Option (List Int) := (List.range 6).findSome? fun most => p.rlaid most p.ws.length []
set_option maxRecDepth 10000 in
theorem rLayers_c (p : Piece) (hok : p.ok = true) : Pure C F.ref_Layers [p.dv] (.d (.tup [bestD p.rlayers, .bool p.rlayers.isSome])) [] := by
 have h1 := fun most hmo => rlaid_c p hok most hmo p.ws.length [] (by simp)
 simp only [dv_Piece, List.map_nil] at h1
 refine pure_of_pwp_d mixed rfl ok_ref_Layers ?_
 simp only [pc_ref_Layers, rs_ref_Layers, dv_Piece, List.not_mem_nil, RN, qA, qB, qC, qD, qE, qF]
 refine pwp_range 6 (fun i (_ : Unit) => ⟨[(1, .d (.cptr p.cells)), (4, .d (.int .i64 i))], ⟨[some (p.cells.map .d)], [0], []⟩⟩)
  (fun i _ => p.rlayers = ((List.range 6).drop i).findSome? fun most => p.rlaid most p.ws.length []) 0 () (Nat.zero_le _) rfl rfl (fun i _ g1 hix => ?_) (fun _ hix => ?_)
 ·obtain ⟨g2, g3, g6⟩ := rng g1 (by omega)
  have g4 : (i : Int) < 6 := by omega
  rw [drop_cons (by simpa using g1), range_getD g1, List.findSome?_cons] at hix
  simp only [Piece.cells, g4, RN, qA, qB, qC, qD, qE, qF]
  refine call_d rfl rfl (h1 i (by omega)) ?_
  cases hL : p.rlaid i p.ws.length [] with
  | none =>
   rw [hL] at hix
   simp only [Option.isSome_none, bestD_n, g6, RN, qA, qB, qC, qD, qE, qF]
   exact up_same () g1 rfl hix (by simp) (by simp) rfl rfl
  | some x =>
   rw [hL] at hix
   simp only [Option.isSome_some, bestD_s, RN, qA, qB, qC, qD, qE, qF]
   rw [hix]
   rfl
 ·rw [List.drop_eq_nil_of_le (by simp), List.findSome?_nil] at hix
  have g4 : ¬ ((6 : Nat) : Int) < 6 := by omega
  simp only [Piece.cells, g4, hix, bestD_n, Option.isSome_none, RN, qA, qB, qC, qD, qE, qF]
theorem rlay_nil (p : Piece) : p.rlay [] = true := rfl
theorem rlayers_same (p : Piece) : p.rlayers = (List.range 6).findSome? fun most => layS p p.groups most p.ws.length [] := by
 refine findSome_congr fun m hm => ?_
 have hm := List.mem_range.1 hm
 rw [rlaid_same (by omega), rlay_nil, if_pos rfl]
theorem layers_of {p : Piece} (hok : p.ok = true) : p.layers = if p.rstiff then ((none, 7) : Option (List Int) × Int) else match p.rlayers with | some l => (some l, 0) | none => (none, 5) := by
 rw [Piece.layers, hok, if_pos rfl, stiff_same, rlayers_same]
 rfl
theorem rlayers_len {p : Piece} {l : List Int} (h : p.rlayers = some l) : l.length = p.ws.length := by
 obtain ⟨m, _, hm⟩ := List.exists_of_findSome?_eq_some h
 have := rlaid_len hm
 simpa using this
set_option maxRecDepth 10000 in
set_option maxHeartbeats 4000000 in
theorem PlateLayers_c (hkn : KnownC) (p : Piece) : Pure Go.Tel.C F.law_PlateLayers [p.dv] (.d (.bool true)) [] := by
 have hkn : Pure C F.law_known [] (.d (.bool true)) [] := hkn
 have y0 : ((0 : Int) == 0) = true := rfl
 have yn : (((0 : Nat) : Int) == 0) = true := rfl
 have y2 : ((2 : Int) == 2) = true := rfl
 have y7 : ((7 : Int) == 7) = true := rfl
 have y5 : ((5 : Int) == 5) = true := rfl
 have hsh := short_c p
 rw [dv_Piece] at hsh
 refine pure_of_pwp_d mixed rfl ok_law_PlateLayers ?_
 simp only [pc_law_PlateLayers, rs_law_PlateLayers, dv_Piece, List.not_mem_nil, RN, qA, qB, qC, qD, qE, qF]
 refine call_d rfl rfl hsh ?_
 cases hs : p.short
 ·simp only [RN, qA, qB, qC, qD, qE, qF]
  refine call_d rfl rfl hkn ?_
  simp only [RN, qA, qB, qC, qD, qE, qF]
 simp only [Piece.short, Bool.and_eq_true, decide_eq_true_eq] at hs
 obtain ⟨⟨s1, s2⟩, s3⟩ := hs
 have h1 := Layers_c p (by omega) (by omega) (by omega)
 have h2 := rPiece_c p (by omega) (by omega) (by omega)
 rw [dv_Piece] at h1 h2
 simp only [RN, qA, qB, qC, qD, qE, qF]
 refine call_d rfl rfl h1 ?_
 cases hok : p.ok
 ·have e : p.layers = (none, 2) := by rw [Piece.layers, hok]; rfl
  rw [hok] at h2
  rw [e]
  simp only [bestD_n, RN, qA, qB, qC, qD, qE, qF]
  refine call_d rfl rfl h2 ?_
  simp only [y2, y0, yn, RN, qA, qB, qC, qD, qE, qF]
  refine call_d rfl rfl hkn ?_
  simp only [RN, qA, qB, qC, qD, qE, qF]
 rw [hok] at h2
 have h3 := rStiff_c p hok
 have h4 := rLayers_c p hok
 have el := layers_of hok
 rw [dv_Piece] at h3 h4
 cases hst : p.rstiff
 case true =>
  rw [hst, if_pos rfl] at el
  rw [hst] at h3
  rw [el]
  simp only [bestD_n, RN, qA, qB, qC, qD, qE, qF]
  refine call_d rfl rfl h2 ?_
  simp only [RN, qA, qB, qC, qD, qE, qF]
  refine call_d rfl rfl h3 ?_
  simp only [y7, y0, yn, RN, qA, qB, qC, qD, qE, qF]
  refine call_d rfl rfl hkn ?_
  simp only [RN, qA, qB, qC, qD, qE, qF]
 rw [hst, if_neg (by decide)] at el
 rw [hst] at h3
 cases hl : p.rlayers with
 | none =>
  rw [hl] at el h4
  have el : p.layers = (none, 5) := el
  rw [el]
  simp only [bestD_n, RN, qA, qB, qC, qD, qE, qF]
  refine call_d rfl rfl h2 ?_
  simp only [RN, qA, qB, qC, qD, qE, qF]
  refine call_d rfl rfl h3 ?_
  simp only [RN, qA, qB, qC, qD, qE, qF]
  refine call_d rfl rfl h4 ?_
  simp only [bestD_n, Option.isSome_none, y5, y0, yn, RN, qA, qB, qC, qD, qE, qF]
  refine call_d rfl rfl hkn ?_
  simp only [RN, qA, qB, qC, qD, qE, qF]
 | some l =>
  rw [hl] at el h4
  have el : p.layers = (some l, 0) := el
  have hS := Same_c l l (by rw [rlayers_len hl]; omega)
  rw [decide_eq_true rfl] at hS
  rw [el]
  simp only [bestD_s, RN, qA, qB, qC, qD, qE, qF]
  refine call_d rfl rfl h2 ?_
  simp only [RN, qA, qB, qC, qD, qE, qF]
  refine call_d rfl rfl h3 ?_
  simp only [RN, qA, qB, qC, qD, qE, qF]
  refine call_d rfl rfl h4 ?_
  simp only [bestD_s, Option.isSome_some, y0, RN, qA, qB, qC, qD, qE, qF]
  refine call_d rfl rfl hS ?_
  simp only [RN, qA, qB, qC, qD, qE, qF]
  refine call_d rfl rfl hkn ?_
  simp only [RN, qA, qB, qC, qD, qE, qF]
end Go.Tel
