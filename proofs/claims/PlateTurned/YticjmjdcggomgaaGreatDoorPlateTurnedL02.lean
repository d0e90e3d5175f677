/-
  Part 2 of the proof of a law of plates, the law itself: an abstract machine over the model, contracts of functions, plain laws.
  Conditions: none.
-/
import Derived.Test.YticjmjdcggomgaaGreatDoorPlateTurnedL01
set_option linter.all false
namespace Go.Tel
end Go.Tel
open Nat renaming reduceBEq → qA, reduceAdd → qB, reduceSub → qC, reduceEqDiff → qD, reduceLT → qE, reduceLeDiff → qF
namespace Go.Tel
open Go.Am
theorem cellsEq_pt (x y : Pt) : cellsEq [1, 1] [.int .i64 x.x, .int .i64 x.y] [.int .i64 y.x, .int .i64 y.y] = some (decide (x = y)) := by
 obtain ⟨a, b⟩ := x
 obtain ⟨c, d⟩ := y
 by_cases h1 : a = c <;> by_cases h2 : b = d <;> simp [cellsEq, h1, h2]
theorem cellsEq_ms (x y : Ms) : cellsEq [1, 1] [.int .i64 x.a, .int .i64 x.b] [.int .i64 y.a, .int .i64 y.b] = some (decide (x = y)) := by
 obtain ⟨a, b⟩ := x
 obtain ⟨c, d⟩ := y
 by_cases h1 : a = c <;> by_cases h2 : b = d <;> simp [cellsEq, h1, h2]
set_option maxRecDepth 10000 in
set_option maxHeartbeats 4000000 in
theorem rPiece_c (p : Piece) (hc : p.cs.length ≤ 1000) (hw : p.ws.length ≤ 1000) (hm : p.ms.length ≤ 1000) : Pure C F.ref_Piece [p.dv] (.d (.bool p.ok)) [] := by
 refine pure_of_pwp_d mixed rfl ok_ref_Piece ?_
 simp only [pc_ref_Piece, rs_ref_Piece, dv_Piece, RN, qA, qB, qC, qD, qE, qF]
 by_cases hh : p.headOk = true
 case neg =>
  have hok : p.ok = false := by simp [Piece.ok, hh]
  rw [hok]
  repeat' first
   | (refine call_d rfl rfl (rin_c _ _ _) ?_; try simp only [RN, qA, qB, qC, qD, qE, qF])
   | (refine guard_split (by rfl) (fun hB => ?_) (fun hB => ?_) <;> simp only [hB, RN, qA, qB, qC, qD, qE, qF])
   | (refine cond_split (by rfl) (fun hB => ?_) (fun hB => ?_) <;> simp only [hB, RN, qA, qB, qC, qD, qE, qF])
  all_goals (first | rfl | (exfalso; simp_all [Piece.headOk]; done))
 have hh' := hh
 simp only [Piece.headOk, Bool.and_eq_true] at hh'
 obtain ⟨⟨⟨⟨a1, a2⟩, a3⟩, a4⟩, a5⟩ := hh'
 refine call_d rfl rfl (rin_c _ _ _) ?_
 simp only [a1, RN, qA, qB, qC, qD, qE, qF]
 refine call_d rfl rfl (rin_c _ _ _) ?_
 simp only [a2, RN, qA, qB, qC, qD, qE, qF]
 refine call_d rfl rfl (rin_c _ _ _) ?_
 simp only [a3, RN, qA, qB, qC, qD, qE, qF]
 refine call_d rfl rfl (rin_c _ _ _) ?_
 simp only [a4, RN, qA, qB, qC, qD, qE, qF]
 refine call_d rfl rfl (rin_c _ _ _) ?_
 simp only [a5, List.length_map, RN, qA, qB, qC, qD, qE, qF]
 refine call_d rfl rfl (rin_c _ _ _) ?_
 by_cases l1 : inR p.cs.length 1 6 = true
 case neg =>
  have l1' : inR p.cs.length 1 6 = false := by simpa using l1
  simp only [l1', RN, qA, qB, qC, qD, qE, qF]
  simp [Piece.ok, Piece.lensOk, l1']
 by_cases l2 : p.ws.length ≤ 8
 case neg =>
  have b2 : (p.ws.length : Int) > 8 := by omega
  simp only [l1, b2, List.length_map, RN, qA, qB, qC, qD, qE, qF]
  simp [Piece.ok, Piece.lensOk, l1, b2]
 have b2 : ¬ (p.ws.length : Int) > 8 := by omega
 by_cases l3 : p.ms.length ≤ 10
 case neg =>
  have b3 : (p.ms.length : Int) > 10 := by omega
  simp only [l1, b2, b3, List.length_map, RN, qA, qB, qC, qD, qE, qF]
  simp [Piece.ok, Piece.lensOk, l1, b2, b3]
 have b3 : ¬ (p.ms.length : Int) > 10 := by omega
 simp only [l1, b2, b3, List.length_map, RN, qA, qB, qC, qD, qE, qF]
 have hlens : p.lensOk = true := by simp [Piece.lensOk, l1, b2, b3]
 have hok : p.ok = (ptsOk p.w p.h [] p.cs && mssOk p.ws.length [] p.ms && p.ws.all (whOk p.cs.length)) := by simp [Piece.ok, hh, hlens]
 rw [hok]
 refine pwp_range p.cs.length (fun i (_ : Unit) => ⟨[(1, .d (.cptr p.cells)), (3, .d (.int .i64 i))], ⟨[some (p.cells.map .d)], [0], []⟩⟩)
  (fun i _ => ptsOk p.w p.h [] p.cs = ptsOk p.w p.h (p.cs.take i) (p.cs.drop i)) 0 () (Nat.zero_le _) rfl (by simp) (fun i _ g1 hix => ?_) (fun _ hix => ?_)
 ·obtain ⟨g2, g3, g6⟩ := rng g1 (by omega)
  rw [drop_cons g1, ptsOk, ← take_snoc g1] at hix
  simp only [Piece.cells, g2, g3, g1, getD_map, Int.toNat_natCast, List.length_map, dv_Pt, List.not_mem_nil, RN, qA, qB, qC, qD, qE, qF]
  have hci : p.cs.getD i default = p.cs.getD i default := rfl
  generalize hcg : p.cs.getD i default = c at *
  refine call_d rfl rfl (rin_c _ _ _) ?_
  by_cases x1 : inR c.x 0 p.w = true
  case neg =>
   have x1' : inR c.x 0 p.w = false := by simpa using x1
   simp only [x1', RN, qA, qB, qC, qD, qE, qF]
   simp [hix, x1']
  simp only [x1, RN, qA, qB, qC, qD, qE, qF]
  refine call_d rfl rfl (rin_c _ _ _) ?_
  by_cases x2 : inR c.y 0 p.h = true
  case neg =>
   have x2' : inR c.y 0 p.h = false := by simpa using x2
   simp only [x2', RN, qA, qB, qC, qD, qE, qF]
   simp [hix, x2']
  simp only [x2, RN, qA, qB, qC, qD, qE, qF]
  rw [x1, x2, Bool.true_and, Bool.true_and] at hix
  refine pwp_range i (fun k (_ : Unit) => ⟨[(1, .d (.cptr p.cells)), (3, .d (.int .i64 i)), (4, .d (.cptr [.int .i64 c.x, .int .i64 c.y])), (5, .d (.int .i64 k))], ⟨[some (p.cells.map .d), some [.d (.int .i64 c.x), .d (.int .i64 c.y)]], [1, 0], []⟩⟩)
   (fun k _ => c ∉ p.cs.take k) 0 () (Nat.zero_le _) rfl (by simp) (fun k _ e1 hk => ?_) (fun _ hk => ?_)
  ·obtain ⟨e2, e3, e6⟩ := rng e1 (by omega)
   have e1' : k < p.cs.length := by omega
   simp only [Piece.cells, e2, e3, e1', getD_map, Int.toNat_natCast, List.length_map, dv_Pt, RN, qA, qB, qC, qD, qE, qF]
   rw [ev_binA (cellsEq_pt _ _)]
   by_cases he : p.cs.getD k default = c
   ·rw [decide_eq_true he]
    have hx : (true != false) = true := rfl
    have hmem : c ∈ p.cs.take i := by
     rw [← he, List.getD_eq_getElem?_getD, List.getElem?_eq_getElem e1']
     exact List.mem_take_iff_getElem.2 ⟨k, by omega, rfl⟩
    simp only [hx, RN, qA, qB, qC, qD, qE, qF]
    simp [hix, hmem]
   ·rw [decide_eq_false he]
    have hx : (false != false) = false := rfl
    simp only [hx, e6, RN, qA, qB, qC, qD, qE, qF]
    exact up_same () e1 rfl (by rw [take_snoc e1']; simp only [List.mem_append, List.mem_singleton, not_or]; exact ⟨hk, fun h => he h.symm⟩) (by simp) (by simp) rfl rfl
  ·have hcn : (p.cs.take i).contains c = false := by simpa using hk
   rw [hcn, Bool.not_false, Bool.true_and] at hix
   simp only [Int.lt_irrefl, g6, RN, qA, qB, qC, qD, qE, qF]
   exact up_take 1 0 () g1 rfl hix (by simp) (by simp) rfl rfl
 ·rw [List.drop_length, ptsOk] at hix
  simp only [Piece.cells, Int.lt_irrefl, List.length_map, RN, qA, qB, qC, qD, qE, qF]
  rw [hix, Bool.true_and]
  refine pwp_range p.ws.length (fun i (_ : Unit) => ⟨[(1, .d (.cptr p.cells)), (6, .d (.int .i64 i))], ⟨[some (p.cells.map .d)], [0], []⟩⟩)
   (fun i _ => p.ws.all (whOk p.cs.length) = (p.ws.drop i).all (whOk p.cs.length)) 0 () (Nat.zero_le _) rfl (by simp) (fun i _ g1 hjx => ?_) (fun _ hjx => ?_)
  ·obtain ⟨g2, g3, g6⟩ := rng g1 (by omega)
   have wl : IntKind.i64.wrap ((p.cs.length : Int) - 1) = (p.cs.length : Int) - 1 := w64_in (by omega)
   rw [drop_cons g1, List.all_cons] at hjx
   simp only [Piece.cells, g2, g3, g1, getD_map, Int.toNat_natCast, List.length_map, dv_Wh, List.not_mem_nil, wl, RN, qA, qB, qC, qD, qE, qF]
   generalize p.ws.getD i default = w at *
   refine call_d rfl rfl (rin_c _ _ _) ?_
   by_cases x1 : inR w.centre 0 ((p.cs.length : Int) - 1) = true
   case neg =>
    have x1' := eq_false_of_ne_true x1
    simp only [x1', RN, qA, qB, qC, qD, qE, qF]
    simp [hjx, whOk, x1']
   simp only [x1, RN, qA, qB, qC, qD, qE, qF]
   refine call_d rfl rfl (rin_c _ _ _) ?_
   by_cases x2 : inR w.sleeve 0 2 = true
   case neg =>
    have x2' := eq_false_of_ne_true x2
    simp only [x2', RN, qA, qB, qC, qD, qE, qF]
    simp [hjx, whOk, x2']
   simp only [x2, RN, qA, qB, qC, qD, qE, qF]
   refine call_d rfl rfl (rin_c _ _ _) ?_
   by_cases x3 : inR w.layer 0 5 = true
   case neg =>
    have x3' := eq_false_of_ne_true x3
    simp only [x3', RN, qA, qB, qC, qD, qE, qF]
    simp [hjx, whOk, x3']
   simp only [x3, RN, qA, qB, qC, qD, qE, qF]
   refine call_d rfl rfl (rin_c _ _ _) ?_
   by_cases x4 : inR w.teeth 4 50 = true
   case neg =>
    have x4' := eq_false_of_ne_true x4
    simp only [x4', RN, qA, qB, qC, qD, qE, qF]
    simp [hjx, whOk, x4']
   simp only [x4, g6, RN, qA, qB, qC, qD, qE, qF]
   exact up_take 1 0 () g1 rfl (by rw [hjx]; simp [whOk, x1, x2, x3, x4]) (by simp) (by simp) rfl rfl
  rw [List.drop_length, List.all_nil] at hjx
  rw [hjx, Bool.and_true]
  simp only [Piece.cells, Int.lt_irrefl, List.length_map, RN, qA, qB, qC, qD, qE, qF]
  refine pwp_range p.ms.length (fun i (_ : Unit) => ⟨[(1, .d (.cptr p.cells)), (8, .d (.int .i64 i))], ⟨[some (p.cells.map .d)], [0], []⟩⟩)
   (fun i _ => mssOk p.ws.length [] p.ms = mssOk p.ws.length (p.ms.take i) (p.ms.drop i)) 0 () (Nat.zero_le _) rfl (by simp) (fun i _ g1 hkx => ?_) (fun _ hkx => ?_)
  ·obtain ⟨g2, g3, g6⟩ := rng g1 (by omega)
   have hwc : ∀ n, Pure C F.ref_Wheel [.agg p.cells, .int .i64 n] (.d (.bool (inR n 0 (p.ws.length - 1)))) [] := fun n => by
    have := rWheel_c p n (by omega)
    rw [dv_Piece] at this
    exact this
   rw [drop_cons g1, mssOk, ← take_snoc g1] at hkx
   simp only [Piece.cells, g2, g3, g1, getD_map, Int.toNat_natCast, List.length_map, dv_Ms, List.not_mem_nil, RN, qA, qB, qC, qD, qE, qF]
   generalize p.ms.getD i default = c at *
   refine call_d rfl rfl (hwc _) ?_
   by_cases x1 : inR c.a 0 ((p.ws.length : Int) - 1) = true
   case neg =>
    have x1' := eq_false_of_ne_true x1
    simp only [x1', RN, qA, qB, qC, qD, qE, qF]
    simp [hkx, x1']
   simp only [x1, RN, qA, qB, qC, qD, qE, qF]
   refine call_d rfl rfl (hwc _) ?_
   by_cases x2 : inR c.b 0 ((p.ws.length : Int) - 1) = true
   case neg =>
    have x2' := eq_false_of_ne_true x2
    simp only [x2', RN, qA, qB, qC, qD, qE, qF]
    simp [hkx, x2']
   by_cases x3 : c.a ≥ c.b
   case pos =>
    simp only [x2, x3, RN, qA, qB, qC, qD, qE, qF]
    rw [hkx, decide_eq_true x3]
    simp
   simp only [x2, x3, RN, qA, qB, qC, qD, qE, qF]
   rw [x1, x2, decide_eq_false x3, Bool.not_false, Bool.true_and, Bool.true_and, Bool.true_and] at hkx
   refine pwp_range i (fun k (_ : Unit) => ⟨[(1, .d (.cptr p.cells)), (8, .d (.int .i64 i)), (9, .d (.cptr [.int .i64 c.a, .int .i64 c.b])), (10, .d (.int .i64 k))], ⟨[some (p.cells.map .d), some [.d (.int .i64 c.a), .d (.int .i64 c.b)]], [1, 0], []⟩⟩)
    (fun k _ => c ∉ p.ms.take k) 0 () (Nat.zero_le _) rfl (by simp) (fun k _ e1 hk => ?_) (fun _ hk => ?_)
   ·obtain ⟨e2, e3, e6⟩ := rng e1 (by omega)
    have e1' : k < p.ms.length := by omega
    simp only [Piece.cells, e2, e3, e1', getD_map, Int.toNat_natCast, List.length_map, dv_Ms, RN, qA, qB, qC, qD, qE, qF]
    rw [ev_binA (cellsEq_ms _ _)]
    by_cases he : p.ms.getD k default = c
    ·rw [decide_eq_true he]
     have hx : (true != false) = true := rfl
     have hmem : c ∈ p.ms.take i := by
      rw [← he, List.getD_eq_getElem?_getD, List.getElem?_eq_getElem e1']
      exact List.mem_take_iff_getElem.2 ⟨k, by omega, rfl⟩
     simp only [hx, RN, qA, qB, qC, qD, qE, qF]
     simp [hkx, hmem]
    ·rw [decide_eq_false he]
     have hx : (false != false) = false := rfl
     simp only [hx, e6, RN, qA, qB, qC, qD, qE, qF]
     exact up_same () e1 rfl (by rw [take_snoc e1']; simp only [List.mem_append, List.mem_singleton, not_or]; exact ⟨hk, fun h => he h.symm⟩) (by simp) (by simp) rfl rfl
   ·have hcn : (p.ms.take i).contains c = false := by simpa using hk
    rw [hcn, Bool.not_false, Bool.true_and] at hkx
    simp only [Int.lt_irrefl, g6, RN, qA, qB, qC, qD, qE, qF]
    exact up_take 1 0 () g1 rfl hkx (by simp) (by simp) rfl rfl
  ·rw [List.drop_length, mssOk] at hkx
   simp only [Piece.cells, Int.lt_irrefl, List.length_map, RN, qA, qB, qC, qD, qE, qF]
   rw [hkx]
end Go.Tel
open Nat renaming reduceBEq → qA, reduceAdd → qB, reduceSub → qC, reduceEqDiff → qD, reduceLT → qE, reduceLeDiff → qF
namespace Go.Tel
open Go.Am
def Piece.rmeshed (p : Piece) (a b : Int) : Bool := p.ms.any fun m => (m.a == a && m.b == b) || (m.a == b && m.b == a)
set_option maxRecDepth 10000 in
theorem rMeshed_c (p : Piece) (a b : Int) (hl : p.ms.length ≤ 1000) : Pure C F.ref_Meshed [p.dv, .int .i64 a, .int .i64 b] (.d (.bool (p.rmeshed a b))) [] := by
 refine pure_of_pwp_d mixed rfl ok_ref_Meshed ?_
 simp only [pc_ref_Meshed, rs_ref_Meshed, dv_Piece, RN, qA, qB, qC, qD, qE, qF]
 refine pwp_range p.ms.length (fun i (_ : Unit) => ⟨[(1, .d (.int .i64 a)), (2, .d (.int .i64 b)), (3, .d (.cptr p.cells)), (7, .d (.int .i64 i))], ⟨[some (p.cells.map .d)], [0], []⟩⟩)
  (fun i _ => p.rmeshed a b = ((p.ms.drop i).any fun m => (m.a == a && m.b == b) || (m.a == b && m.b == a))) 0 () (Nat.zero_le _) rfl rfl (fun i _ g1 hix => ?_) (fun _ hix => ?_)
 ·obtain ⟨g2, g3, g6⟩ := rng g1 (by omega)
  rw [drop_cons g1, List.any_cons] at hix
  simp only [Piece.cells, g2, g3, g1, getD_map, Int.toNat_natCast, List.length_map, dv_Ms, List.not_mem_nil, RN, qA, qB, qC, qD, qE, qF]
  generalize p.ms.getD i default = m at *
  have key : ∀ t : Bool, t = ((m.a == a && m.b == b) || (m.a == b && m.b == a)) → p.rmeshed a b = (t || ((p.ms.drop (i + 1)).any fun m => (m.a == a && m.b == b) || (m.a == b && m.b == a))) := fun t ht => by rw [hix, ht]
  clear hix
  repeat' first
   | (refine guard_split (by rfl) (fun hB => ?_) (fun hB => ?_) <;> simp only [hB, List.not_mem_nil, g6, RN, qA, qB, qC, qD, qE, qF])
   | (refine cond_split (by rfl) (fun hB => ?_) (fun hB => ?_) <;> simp only [hB, List.not_mem_nil, g6, RN, qA, qB, qC, qD, qE, qF])
  all_goals first
   | (rw [key true (by simp_all)]; rfl)
   | (exact up_take 1 0 () g1 rfl (by rw [key false (by simp_all), Bool.false_or]) (by simp) (by simp) rfl rfl)
 ·rw [List.drop_length, List.any_nil] at hix
  simp only [Piece.cells, Int.lt_irrefl, List.length_map, RN, qA, qB, qC, qD, qE, qF]
  rw [hix]
end Go.Tel
namespace Go.Tel
open Go.Am
theorem mssOk_lt {n : Int} : ∀ {pre ms : List Ms}, mssOk n pre ms = true → ∀ m ∈ ms, 0 ≤ m.a ∧ m.a < m.b ∧ m.b ≤ n - 1
 | _, [], _, m, h => by cases h
 | pre, x :: ms, h, m, hm => by
  simp only [mssOk, inR, Bool.and_eq_true, decide_eq_true_eq, Bool.not_eq_true', decide_eq_false_iff_not, ge_iff_le] at h
  rcases List.mem_cons.1 hm with rfl | hm
  ·omega
  ·exact mssOk_lt h.2 m hm
theorem ok_mss {p : Piece} (h : p.ok = true) : ∀ m ∈ p.ms, 0 ≤ m.a ∧ m.a < m.b ∧ m.b ≤ p.ws.length - 1 := by
 simp only [Piece.ok, Bool.and_eq_true] at h
 exact mssOk_lt h.1.2
theorem mesh_same {p : Piece} (h : ∀ m ∈ p.ms, m.a < m.b) (a b : Int) : p.mesh a b = p.rmeshed a b := by
 rw [Bool.eq_iff_iff, Piece.mesh, List.contains_iff_mem, Piece.rmeshed, List.any_eq_true]
 constructor
 ·intro hm
  refine ⟨_, hm, ?_⟩
  simp only [Bool.or_eq_true, Bool.and_eq_true, beq_iff_eq]
  omega
 ·rintro ⟨⟨x, y⟩, hm, he⟩
  have := h _ hm
  simp only [Bool.or_eq_true, Bool.and_eq_true, beq_iff_eq] at he this
  have e : (⟨min a b, max a b⟩ : Ms) = ⟨x, y⟩ := by
   rw [Ms.mk.injEq]; omega
  rw [e]; exact hm
end Go.Tel
open Nat renaming reduceBEq → qA, reduceAdd → qB, reduceSub → qC, reduceEqDiff → qD, reduceLT → qE, reduceLeDiff → qF
namespace Go.Tel
open Go.Am
end Go.Tel
open Nat renaming reduceBEq → qA, reduceAdd → qB, reduceSub → qC, reduceEqDiff → qD, reduceLT → qE, reduceLeDiff → qF
namespace Go.Am
end Go.Am
namespace Go.Tel
open Go.Am
def left (gone : List Int) (k : Nat) : List Nat := (List.range k).filter fun i => !gone.contains (i : Int)
def numOf (gone : List Int) (k : Nat) : Int := if gone.contains (k : Int) then -1 else ((left gone k).length : Int)
def Piece.kept (p : Piece) (gone : List Int) (k : Nat) : List Wh := (left gone k).map fun i => p.ws.getD i default
def newM (gone : List Int) (m : Ms) : Option Ms := if decide (numOf gone m.a.toNat ≥ 0) && decide (numOf gone m.b.toNat ≥ 0) then some ⟨numOf gone m.a.toNat, numOf gone m.b.toNat⟩ else none
def Piece.rwithout (p : Piece) (gone : List Int) : Piece := { p with ws := p.kept gone p.ws.length, ms := p.ms.filterMap (newM gone) }
structure WoS where
 ver : Nat
 c : PV
 ar : List (Option Arr)
end Go.Tel
namespace Go.Tel
open Go.Am
section
variable {p : Piece} {gone : List Int}
end
end Go.Tel
namespace Go.Tel
open Go.Am
end Go.Tel
namespace Go.Tel
open Go.Am
structure Tn.low (q : Tn) : Prop where
 den : 1 ≤ q.den
 gcd : Nat.gcd q.num.natAbs q.den.natAbs = 1
theorem turn_parts (n d : Int) : n = (Nat.gcd n.natAbs d.natAbs : Nat) * (turnS n d).num ∧ d = (Nat.gcd n.natAbs d.natAbs : Nat) * (turnS n d).den := by
 have h1 : ((Nat.gcd n.natAbs d.natAbs : Nat) : Int) ∣ n := Int.ofNat_dvd_left.2 (Nat.gcd_dvd_left _ _)
 have h2 : ((Nat.gcd n.natAbs d.natAbs : Nat) : Int) ∣ d := Int.ofNat_dvd_left.2 (Nat.gcd_dvd_right _ _)
 exact ⟨(Int.mul_tdiv_cancel' h1).symm, (Int.mul_tdiv_cancel' h2).symm⟩
theorem turn_low {n d : Int} (h : 1 ≤ d) : (turnS n d).low := by
 obtain ⟨h1, h2⟩ := turn_parts n d
 have hg : 0 < Nat.gcd n.natAbs d.natAbs := Nat.gcd_pos_of_pos_right _ (by omega)
 have ho := turnS n d
 constructor
 ·refine Classical.byContradiction fun hh => ?_
  have : ((Nat.gcd n.natAbs d.natAbs : Nat) : Int) * (turnS n d).den ≤ 0 := Int.mul_nonpos_of_nonneg_of_nonpos (by omega) (by omega)
  omega
 ·have e1 : n.natAbs = Nat.gcd n.natAbs d.natAbs * (turnS n d).num.natAbs := by
   have := congrArg Int.natAbs h1
   rwa [Int.natAbs_mul, Int.natAbs_natCast] at this
  have e2 : d.natAbs = Nat.gcd n.natAbs d.natAbs * (turnS n d).den.natAbs := by
   have := congrArg Int.natAbs h2
   rwa [Int.natAbs_mul, Int.natAbs_natCast] at this
  have e3 : Nat.gcd n.natAbs d.natAbs * Nat.gcd (turnS n d).num.natAbs (turnS n d).den.natAbs = Nat.gcd n.natAbs d.natAbs := by
   rw [← Nat.gcd_mul_left, ← e1, ← e2]
  exact Nat.eq_of_mul_eq_mul_left hg (by rw [e3, Nat.mul_one])
theorem turn_val {n d : Int} : (turnS n d).num * d = n * (turnS n d).den := by
 obtain ⟨h1, h2⟩ := turn_parts n d
 generalize (Nat.gcd n.natAbs d.natAbs : Nat) = g at *
 generalize turnS n d = q at *
 rw [h1, h2, ← Int.mul_assoc, Int.mul_comm q.num]
theorem low_eq {q r : Tn} (hq : q.low) (hr : r.low) (h : q.num * r.den = r.num * q.den) : q = r := by
 have hn : q.num.natAbs * r.den.natAbs = r.num.natAbs * q.den.natAbs := by
  have := congrArg Int.natAbs h
  rwa [Int.natAbs_mul, Int.natAbs_mul] at this
 have d1 : q.den.natAbs ∣ r.den.natAbs := by
  have hc : Nat.Coprime q.den.natAbs q.num.natAbs := by rw [Nat.Coprime, Nat.gcd_comm]; exact hq.gcd
  exact hc.dvd_of_dvd_mul_left (hn ▸ Nat.dvd_mul_left _ _)
 have d2 : r.den.natAbs ∣ q.den.natAbs := by
  have hc : Nat.Coprime r.den.natAbs r.num.natAbs := by rw [Nat.Coprime, Nat.gcd_comm]; exact hr.gcd
  exact hc.dvd_of_dvd_mul_left (hn ▸ Nat.dvd_mul_left _ _)
 have hd : q.den = r.den := by
  have := Nat.dvd_antisymm d1 d2
  have := hq.den; have := hr.den; omega
 have h0 : r.den ≠ 0 := by have := hr.den; omega
 rw [hd] at h
 have hnn := Int.eq_of_mul_eq_mul_right h0 h
 obtain ⟨a, b⟩ := q; obtain ⟨c, d⟩ := r
 simp only at hd hnn
 rw [hd, hnn]
theorem turn_ne {n d : Int} (h : n ≠ 0) : (turnS n d).num ≠ 0 := by
 intro hh
 have := (turn_parts n d).1
 rw [hh, Int.mul_zero] at this
 exact h this
theorem turn_le {n d : Int} : (turnS n d).num.natAbs ≤ n.natAbs ∧ (turnS n d).den.natAbs ≤ d.natAbs := ⟨tdiv_bd _ _, tdiv_bd _ _⟩
def Piece.tied (p : Piece) (a b : Int) : Bool := p.mesh a b || p.sleeved a b
def Piece.stp (p : Piece) (a b : Int) (q : Tn) : Tn := (p.joined a b q).1
theorem joined_2 (p : Piece) (a b : Int) (q : Tn) : (p.joined a b q).2 = p.tied a b := by
 rw [Piece.joined, Piece.tied]
 cases p.mesh a b <;> rfl
theorem mesh_comm (p : Piece) (a b : Int) : p.mesh a b = p.mesh b a := by
 rw [Piece.mesh, Piece.mesh, Int.min_comm, Int.max_comm]
theorem sleeved_comm (p : Piece) (a b : Int) : p.sleeved a b = p.sleeved b a := by
 simp only [Piece.sleeved, Piece.centred]
 rw [Bool.eq_iff_iff]
 simp only [Bool.and_eq_true, beq_iff_eq]
 omega
theorem tied_comm (p : Piece) (a b : Int) : p.tied a b = p.tied b a := by rw [Piece.tied, mesh_comm, sleeved_comm]; rfl
inductive Piece.Re (p : Piece) (w : Nat) : Nat → Prop
 | refl : p.Re w w
 | step {a b : Nat} : p.Re w a → b < p.ws.length → b ≠ a → p.tied a b = true → p.Re w b
theorem Re_lt {p : Piece} {w : Nat} (hw : w < p.ws.length) {a : Nat} (h : p.Re w a) : a < p.ws.length := by
 cases h with
 | refl => exact hw
 | step _ h _ _ => exact h
theorem Re_trans {p : Piece} {w a b : Nat} (h1 : p.Re w a) (h2 : p.Re a b) : p.Re w b := by
 induction h2 with
 | refl => exact h1
 | step _ h3 h4 h5 ih => exact .step ih h3 h4 h5
theorem Re_symm {p : Piece} {w : Nat} (hw : w < p.ws.length) {a : Nat} (h : p.Re w a) : p.Re a w := by
 induction h with
 | refl => exact .refl
 | step h1 h2 h3 h4 ih =>
  rename_i c b
  exact Re_trans (.step .refl (Re_lt hw h1) (Ne.symm h3) (by rw [tied_comm]; exact h4)) ih
def Piece.Agr (p : Piece) (T : Nat → Tn) (a b : Nat) : Prop := (p.mesh a b && p.sleeved a b) = false ∧ (p.tied a b = true → T b = p.stp a b (T a))
structure Piece.Lab (p : Piece) (w : Nat) (T : Nat → Tn) : Prop where
 one : T w = ⟨1, 1⟩
 agr : ∀ a b : Nat, p.Re w a → b < p.ws.length → b ≠ a → p.Agr T a b
theorem Lab_uniq {p : Piece} {w : Nat} {T S : Nat → Tn} (h1 : p.Lab w T) (h2 : p.Lab w S) {a : Nat} (h : p.Re w a) : T a = S a := by
 induction h with
 | refl => rw [h1.one, h2.one]
 | step h3 h4 h5 h6 ih =>
  rw [(h1.agr _ _ h3 h4 h5).2 h6, (h2.agr _ _ h3 h4 h5).2 h6, ih]
section
variable {p : Piece} {M : Nat} (hM : ∀ w ∈ p.ws, 1 ≤ w.teeth ∧ w.teeth ≤ M)
include hM
theorem wh_teeth {a : Nat} (ha : a < p.ws.length) : 1 ≤ (p.wh a).teeth ∧ (p.wh a).teeth ≤ M := hM _ (getD_mem (by simpa using ha))
theorem stp_low {a b : Nat} (hb : b < p.ws.length) {q : Tn} (hq : q.low) : (p.stp a b q).low := by
 have := (wh_teeth hM hb).1
 rw [Piece.stp, Piece.joined]
 split
 ·refine turn_low ?_
  have := Int.mul_le_mul hq.den this (by omega) (by have := hq.den; omega)
  omega
 ·exact hq
theorem stp_ne {a b : Nat} (ha : a < p.ws.length) {q : Tn} (hq : q.num ≠ 0) : (p.stp a b q).num ≠ 0 := by
 have := (wh_teeth hM ha).1
 rw [Piece.stp, Piece.joined]
 split
 ·exact turn_ne (Int.mul_ne_zero (by omega) (by omega))
 ·exact hq
theorem stp_le {a b : Nat} (ha : a < p.ws.length) (hb : b < p.ws.length) (h1 : 1 ≤ M) {q : Tn} {B : Nat} (hq : q.num.natAbs ≤ B ∧ q.den.natAbs ≤ B) : (p.stp a b q).num.natAbs ≤ B * M ∧ (p.stp a b q).den.natAbs ≤ B * M := by
 have ta := wh_teeth hM ha
 have tb := wh_teeth hM hb
 have hBM : B ≤ B * M := Nat.le_mul_of_pos_right _ h1
 rw [Piece.stp, Piece.joined]
 split
 ·obtain ⟨l1, l2⟩ := turn_le (n := -q.num * (p.wh a).teeth) (d := q.den * (p.wh b).teeth)
  rw [Int.natAbs_mul, Int.natAbs_neg] at l1
  rw [Int.natAbs_mul] at l2
  have k1 := Nat.mul_le_mul hq.1 (show (p.wh a).teeth.natAbs ≤ M by omega)
  have k2 := Nat.mul_le_mul hq.2 (show (p.wh b).teeth.natAbs ≤ M by omega)
  exact ⟨Nat.le_trans l1 k1, Nat.le_trans l2 k2⟩
 ·exact ⟨Nat.le_trans hq.1 hBM, Nat.le_trans hq.2 hBM⟩
end
def unk (out : List Tn) : Nat := out.countP fun q => q.num == 0
theorem unk_set {out : List Tn} {b : Nat} {v : Tn} (hb : b < out.length) (h0 : (out.getD b default).num = 0) (hv : v.num ≠ 0) : unk (out.set b v) + 1 = unk out := by
 have hg : out.getD b default = out[b] := by rw [List.getD_eq_getElem?_getD, List.getElem?_eq_getElem hb]; rfl
 rw [hg] at h0
 rw [unk, List.countP_set hb, ← unk]
 have e1 : (out[b].num == 0) = true := beq_iff_eq.2 h0
 have e2 : (v.num == 0) = false := beq_eq_false_iff_ne.2 hv
 have : 0 < unk out := List.countP_pos_iff.2 ⟨out[b], List.getElem_mem hb, e1⟩
 simp only [e1, e2, if_true, Bool.false_eq_true, if_false]
 omega
theorem getD_set {α : Type} [Inhabited α] {l : List α} {b : Nat} {v : α} (hb : b < l.length) (c : Nat) : (l.set b v).getD c default = if c = b then v else l.getD c default := by
 rw [List.getD_eq_getElem?_getD, List.getElem?_set]
 by_cases h : c = b
 ·subst h; simp [hb]
 ·rw [if_neg (fun e => h e.symm), if_neg h, List.getD_eq_getElem?_getD]
structure BI (p : Piece) (w M : Nat) (out : List Tn) (left : List Int) (done : Nat → Prop) (cur : Nat → Prop) : Prop where
 len : out.length = p.ws.length
 one : out.getD w default = ⟨1, 1⟩
 zer : ∀ b, b < p.ws.length → (out.getD b default).num = 0 → out.getD b default = ⟨0, 1⟩
 re : ∀ b, b < p.ws.length → (out.getD b default).num ≠ 0 → p.Re w b
 low : ∀ b, b < p.ws.length → (out.getD b default).num ≠ 0 → (out.getD b default).low
 bd : ∀ b, b < p.ws.length → (out.getD b default).num ≠ 0 → (out.getD b default).num.natAbs ≤ M ^ (p.ws.length - 1 - unk out) ∧ (out.getD b default).den.natAbs ≤ M ^ (p.ws.length - 1 - unk out)
 lft : ∀ x ∈ left, p.isW x ∧ (out.getD x.toNat default).num ≠ 0
 cov : ∀ b : Nat, b < p.ws.length → (out.getD b default).num ≠ 0 → (b : Int) ∈ left ∨ done b ∨ cur b
 lab : ∀ T, p.Lab w T → ∀ b, b < p.ws.length → (out.getD b default).num ≠ 0 → out.getD b default = T b
 dn : ∀ a, done a → a < p.ws.length ∧ (out.getD a default).num ≠ 0 ∧ ∀ b, b < p.ws.length → b ≠ a → p.Agr (fun i => out.getD i default) a b
section
variable {p : Piece} {w M : Nat} (hM : ∀ w ∈ p.ws, 1 ≤ w.teeth ∧ w.teeth ≤ M) (h1M : 1 ≤ M) (hw : w < p.ws.length)
include hM h1M hw
theorem agr_set {out : List Tn} {b : Nat} {v : Tn} (hb : b < out.length) (h0 : (out.getD b default).num = 0) {a c : Nat} (ha : a < p.ws.length) (hc : c < p.ws.length) (han : (out.getD a default).num ≠ 0) (h : p.Agr (fun i => out.getD i default) a c) :
  p.Agr (fun i => (out.set b v).getD i default) a c := by
 refine ⟨h.1, fun ht => ?_⟩
 have hh := h.2 ht
 have hab : a ≠ b := fun e => han (by rw [e]; exact h0)
 have hcn : (out.getD c default).num ≠ 0 := by rw [show out.getD c default = _ from hh]; exact stp_ne hM ha han
 have hcb : c ≠ b := fun e => hcn (by rw [e]; exact h0)
 simp only [getD_set hb, if_neg hab, if_neg hcb]
 exact hh
theorem BI.set {out : List Tn} {left : List Int} {done cur : Nat → Prop} (I : BI p w M out left done cur) {a b : Nat} (ha : a < p.ws.length) (han : (out.getD a default).num ≠ 0) (hb : b < p.ws.length) (hba : b ≠ a) (ht : p.tied a b = true) (h0 : (out.getD b default).num = 0) :
  BI p w M (out.set b (p.stp a b (out.getD a default))) (left ++ [(b : Int)]) done cur ∧ unk (out.set b (p.stp a b (out.getD a default))) + 1 = unk out := by
 have hbo : b < out.length := by rw [I.len]; exact hb
 have hvn := stp_ne hM ha (b := b) han
 have hu := unk_set hbo h0 hvn
 have hul : unk out ≤ p.ws.length - 1 := by
  have hlt : unk out < out.length := by
   refine Nat.lt_of_le_of_ne List.countP_le_length fun e => ?_
   have := List.countP_eq_length.1 e (out.getD a default) (getD_mem (by rw [I.len]; exact ha))
   exact han (beq_iff_eq.1 this)
  rw [I.len] at hlt; omega
 have hlow := I.low a ha han
 have hbd := I.bd a ha han
 have hle := stp_le hM ha hb h1M hbd
 have hpow : M ^ (p.ws.length - 1 - unk (out.set b (p.stp a b (out.getD a default)))) = M ^ (p.ws.length - 1 - unk out) * M := by
  rw [← Nat.pow_succ]; congr 1; omega
 have hre : p.Re w b := .step (I.re a ha han) hb hba ht
 refine ⟨{ len := by rw [List.length_set]; exact I.len, one := ?_, zer := fun c hc hz => ?_, re := fun c hc hn => ?_, low := fun c hc hn => ?_, bd := fun c hc hn => ?_, lft := fun x hx => ?_, cov := fun c hc hn => ?_, lab := fun T hT c hc hn => ?_, dn := fun c hc => ?_ }, hu⟩
 ·have : w ≠ b := fun e => by rw [← e, I.one] at h0; cases h0
  rw [getD_set hbo, if_neg this]; exact I.one
 ·rw [getD_set hbo] at hz ⊢
  split at hz
  ·exact absurd hz hvn
  ·rename_i hcb
   rw [if_neg hcb]; exact I.zer c hc hz
 ·rw [getD_set hbo] at hn
  split at hn
  ·rename_i e; rw [e]; exact hre
  ·exact I.re c hc hn
 ·rw [getD_set hbo] at hn ⊢
  split
  ·exact stp_low hM hb hlow
  ·rename_i hcb
   rw [if_neg hcb] at hn; exact I.low c hc hn
 ·rw [hpow]
  rw [getD_set hbo] at hn ⊢
  split
  ·exact hle
  ·rename_i hcb
   rw [if_neg hcb] at hn
   have := I.bd c hc hn
   have hk : M ^ (p.ws.length - 1 - unk out) ≤ M ^ (p.ws.length - 1 - unk out) * M := Nat.le_mul_of_pos_right _ h1M
   omega
 ·rcases List.mem_append.1 hx with hx | hx
  ·obtain ⟨x1, x2⟩ := I.lft x hx
   refine ⟨x1, ?_⟩
   rw [getD_set hbo]
   split
   ·exact hvn
   ·exact x2
  ·rw [List.mem_singleton.1 hx]
   refine ⟨⟨by omega, by simpa using hb⟩, ?_⟩
   rw [getD_set hbo, Int.toNat_natCast, if_pos rfl]; exact hvn
 ·rw [getD_set hbo] at hn
  split at hn
  ·rename_i e; left; rw [e]; simp
  ·rcases I.cov c hc hn with h | h
   ·left; simp [h]
   ·right; exact h
 ·rw [getD_set hbo] at hn ⊢
  split
  ·rename_i e
   rw [e, (hT.agr a b (I.re a ha han) hb hba).2 ht, ← I.lab T hT a ha han]
  ·rename_i hcb
   rw [if_neg hcb] at hn; exact I.lab T hT c hc hn
 ·obtain ⟨d1, d2, d3⟩ := I.dn c hc
  refine ⟨d1, ?_, fun e he hne => agr_set hM h1M hw hbo h0 d1 he d2 (d3 e he hne)⟩
  rw [getD_set hbo]
  split
  ·exact hvn
  ·exact d2
theorem rtIn_spec {done : Nat → Prop} {a : Nat} (ha : a < p.ws.length) (hB : M ^ (p.ws.length - 1) ≤ 1000000000000000) (hnl : p.ws.length ≤ 1000) :
  ∀ (k b : Nat) (out : List Tn) (left : List Int), b + k = p.ws.length → BI p w M out left done (fun c => c = a) → (out.getD a default).num ≠ 0 → (∀ c, c < b → c ≠ a → p.Agr (fun i => out.getD i default) a c) → left.length + unk out ≤ p.ws.length →
  match p.rtIn a k b out left with
  | .go out' left' => BI p w M out' left' done (fun c => c = a) ∧ (out'.getD a default).num ≠ 0 ∧ (∀ c, c < p.ws.length → c ≠ a → p.Agr (fun i => out'.getD i default) a c) ∧ left'.length + unk out' = left.length + unk out
  | .locked _ _ => ¬ ∃ T, p.Lab w T
  | .none => False
 | 0, b, out, left, hbk, I, han, hc, _ => by
  rw [Piece.rtIn]
  exact ⟨I, han, fun c hcl hne => hc c (by omega) hne, rfl⟩
 | k + 1, b, out, left, hbk, I, han, hc, hu => by
  have hb : b < p.ws.length := by omega
  have hre := I.re a ha han
  rw [Piece.rtIn]
  by_cases e : (b : Int) = (a : Int)
  ·rw [if_pos e]
   exact rtIn_spec ha hB hnl k (b + 1) out left (by omega) I han (fun c h1 h2 => hc c (by omega) h2) hu
  rw [if_neg e]
  have hba : b ≠ a := by omega
  by_cases hms : (p.mesh a b && p.sleeved a b) = true
  ·rw [if_pos hms]
   rintro ⟨T, hT⟩
   have := (hT.agr a b hre hb hba).1
   rw [hms] at this; cases this
  rw [if_neg hms]
  rw [Bool.not_eq_true] at hms
  have hlow := I.low a ha han
  have hbd := I.bd a ha han
  have hpw : M ^ (p.ws.length - 1 - unk out) ≤ M ^ (p.ws.length - 1) := Nat.pow_le_pow_right h1M (by omega)
  have hok : (tnOk (out.getD (a : Int).toNat default) && decide (left.length ≤ 1000)) = true := by
   rw [Int.toNat_natCast, tnOk]
   have := hlow.den
   simp only [Bool.and_eq_true, decide_eq_true_eq]
   omega
  rw [if_pos hok, joined_2]
  have hstp : (p.joined a b (out.getD (a : Int).toNat default)).1 = p.stp a b (out.getD a default) := by rw [Piece.stp, Int.toNat_natCast]
  rw [hstp]
  by_cases ht : p.tied a b = true
  case neg =>
   rw [Bool.not_eq_true] at ht
   rw [if_pos ht]
   refine rtIn_spec ha hB hnl k (b + 1) out left (by omega) I han (fun c h1 h2 => ?_) hu
   by_cases hcb : c = b
   ·subst hcb
    exact ⟨hms, fun h => by rw [ht] at h; cases h⟩
   ·exact hc c (by omega) h2
  rw [if_neg (by rw [ht]; decide)]
  by_cases h0 : (out.getD b default).num = 0
  ·rw [if_pos h0]
   obtain ⟨I', hu'⟩ := I.set hM h1M hw ha han hb hba ht h0
   have hbo : b < out.length := by rw [I.len]; exact hb
   have han' : ((out.set b (p.stp a b (out.getD a default))).getD a default).num ≠ 0 := by rw [getD_set hbo, if_neg (Ne.symm hba)]; exact han
   have := rtIn_spec ha hB hnl k (b + 1) _ _ (by omega) I' han' (fun c h1 h2 => by
    by_cases hcb : c = b
    ·subst hcb
     refine ⟨hms, fun _ => ?_⟩
     simp only [getD_set hbo, if_neg (Ne.symm hba), if_true]
    ·exact agr_set hM h1M hw hbo h0 ha (by omega) han (hc c (by omega) h2)) (by rw [List.length_append, List.length_singleton]; omega)
   revert this
   generalize p.rtIn a k (b + 1) _ _ = R
   intro this
   cases R with
   | go o l =>
    obtain ⟨t1, t2, t3, t4⟩ := this
    exact ⟨t1, t2, t3, by rw [t4, List.length_append, List.length_singleton]; omega⟩
   | locked x y => exact this
   | none => exact this
  rw [if_neg h0]
  by_cases hq : out.getD b default = p.stp a b (out.getD a default)
  ·rw [if_pos hq]
   refine rtIn_spec ha hB hnl k (b + 1) out left (by omega) I han (fun c h1 h2 => ?_) hu
   by_cases hcb : c = b
   ·subst hcb
    exact ⟨hms, fun _ => hq⟩
   ·exact hc c (by omega) h2
  ·rw [if_neg hq]
   rintro ⟨T, hT⟩
   exact hq (by rw [I.lab T hT b hb h0, (hT.agr a b hre hb hba).2 ht, ← I.lab T hT a ha han])
theorem rtF_spec (hB : M ^ (p.ws.length - 1) ≤ 1000000000000000) (hnl : p.ws.length ≤ 1000) :
  ∀ (k : Nat) (out : List Tn) (left : List Int) (done : Nat → Prop), BI p w M out left done (fun _ => False) → left.length + unk out < k → left.length + unk out ≤ p.ws.length →
  match p.rtF k out left with
  | .go out' left' => left' = [] ∧ ∃ done', BI p w M out' [] done' (fun _ => False)
  | .locked _ _ => ¬ ∃ T, p.Lab w T
  | .none => False
 | k, out, [], done, I, _, _ => by
  have e : p.rtF k out [] = .go out [] := by cases k <;> rfl
  rw [e]
  exact ⟨rfl, done, I⟩
 | 0, out, x :: l, done, I, h, _ => by omega
 | k + 1, out, x :: l, done, I, h, hl => by
  obtain ⟨⟨x1, x2⟩, x3⟩ := I.lft x List.mem_cons_self
  obtain ⟨a, rfl⟩ := Int.eq_ofNat_of_zero_le x1
  rw [Int.toNat_natCast] at x2 x3
  rw [Piece.rtF]
  simp only [List.length_cons] at h hl
  have I' : BI p w M out l done (fun c => c = a) := { I with
   lft := fun y hy => I.lft y (List.mem_cons_of_mem _ hy)
   cov := fun b hb hn => by
    rcases I.cov b hb hn with h | h | h
    ·rcases List.mem_cons.1 h with h | h
     ·exact .inr (.inr (by omega))
     ·exact .inl h
    ·exact .inr (.inl h)
    ·exact h.elim }
  have := rtIn_spec hM h1M hw x2 hB hnl p.ws.length 0 out l (by omega) I' x3 (fun c h => by omega) (by omega)
  revert this
  generalize p.rtIn a p.ws.length 0 out l = R
  intro this
  cases R with
  | go o l' =>
   obtain ⟨t1, t2, t3, t4⟩ := this
   refine rtF_spec hB hnl k o l' (fun c => done c ∨ c = a) { t1 with
    cov := fun b hb hn => by
     rcases t1.cov b hb hn with h | h
     ·exact .inl h
     ·exact .inr (.inl h)
    dn := fun c hc => by
     rcases hc with hc | rfl
     ·exact t1.dn c hc
     ·exact ⟨x2, t2, t3⟩ } (by omega) (by omega)
  | locked x y => exact this
  | none => exact this
theorem BI_init : BI p w M ((List.replicate p.ws.length (⟨0, 1⟩ : Tn)).set w ⟨1, 1⟩) [(w : Int)] (fun _ => False) (fun _ => False) := by
 have hrl : (List.replicate p.ws.length (⟨0, 1⟩ : Tn)).length = p.ws.length := List.length_replicate
 have hrg : ∀ c, c < p.ws.length → (List.replicate p.ws.length (⟨0, 1⟩ : Tn)).getD c default = ⟨0, 1⟩ := fun c hc => by
  rw [List.getD_eq_getElem?_getD, List.getElem?_replicate, if_pos hc]; rfl
 have hg : ∀ c, c < p.ws.length → ((List.replicate p.ws.length (⟨0, 1⟩ : Tn)).set w ⟨1, 1⟩).getD c default = if c = w then ⟨1, 1⟩ else ⟨0, 1⟩ := fun c hc => by
  rw [getD_set (by rw [hrl]; exact hw), hrg c hc]
 have _hu : unk ((List.replicate p.ws.length (⟨0, 1⟩ : Tn)).set w ⟨1, 1⟩) + 1 = p.ws.length := by
  rw [unk_set (by rw [hrl]; exact hw) (by rw [hrg w hw]) (by decide), unk, List.countP_replicate]; rfl
 have hq : ∀ c, c < p.ws.length → (((List.replicate p.ws.length (⟨0, 1⟩ : Tn)).set w ⟨1, 1⟩).getD c default).num ≠ 0 → c = w := fun c hc hn => by
  rw [hg c hc] at hn
  split at hn
  ·rename_i h; exact h
  ·exact absurd rfl hn
 exact {
  len := by rw [List.length_set, hrl]
  one := by rw [hg w hw, if_pos rfl]
  zer := fun b hb h0 => by
   rw [hg b hb] at h0 ⊢
   split at h0
   ·cases h0
   ·rename_i h; rw [if_neg h]
  re := fun b hb hn => by rw [hq b hb hn]; exact .refl
  low := fun b hb hn => by
   rw [hg b hb, if_pos (hq b hb hn)]; exact ⟨by decide, by decide⟩
  bd := fun b hb hn => by
   rw [hg b hb, if_pos (hq b hb hn)]
   exact ⟨Nat.one_le_pow _ _ h1M, Nat.one_le_pow _ _ h1M⟩
  lft := fun x hx => by
   rw [List.mem_singleton.1 hx]
   refine ⟨⟨by omega, by simpa using hw⟩, ?_⟩
   rw [Int.toNat_natCast, hg w hw, if_pos rfl]; decide
  cov := fun b hb hn => by left; rw [hq b hb hn]; simp
  lab := fun T hT b hb hn => by rw [hg b hb, if_pos (hq b hb hn), hq b hb hn, hT.one]
  dn := fun a h => h.elim }
structure Piece.Found (p : Piece) (w M : Nat) (out : List Tn) : Prop where
 len : out.length = p.ws.length
 zer : ∀ b, b < p.ws.length → ¬ p.Re w b → out.getD b default = ⟨0, 1⟩
 ne : ∀ b, p.Re w b → (out.getD b default).num ≠ 0
 low : ∀ b, p.Re w b → (out.getD b default).low
 bd : ∀ b, p.Re w b → (out.getD b default).num.natAbs ≤ M ^ (p.ws.length - 1) ∧ (out.getD b default).den.natAbs ≤ M ^ (p.ws.length - 1)
 lab : p.Lab w fun i => out.getD i default
theorem rt_spec (hB : M ^ (p.ws.length - 1) ≤ 1000000000000000) (hnl : p.ws.length ≤ 1000) :
  (∃ out, p.rt w = .go out [] ∧ p.Found w M out) ∨ (∃ a b, p.rt w = .locked a b) ∧ ¬ ∃ T, p.Lab w T := by
 have hrl : (List.replicate p.ws.length (⟨0, 1⟩ : Tn)).length = p.ws.length := List.length_replicate
 have hrg : ∀ c, c < p.ws.length → (List.replicate p.ws.length (⟨0, 1⟩ : Tn)).getD c default = ⟨0, 1⟩ := fun c hc => by
  rw [List.getD_eq_getElem?_getD, List.getElem?_replicate, if_pos hc]; rfl
 have hu : unk ((List.replicate p.ws.length (⟨0, 1⟩ : Tn)).set w ⟨1, 1⟩) + 1 = p.ws.length := by
  rw [unk_set (by rw [hrl]; exact hw) (by rw [hrg w hw]) (by decide), unk, List.countP_replicate]; rfl
 have I := BI_init hM h1M hw
 have := rtF_spec hM h1M hw hB hnl (p.ws.length + 1) _ _ _ I (by rw [List.length_singleton]; omega) (by rw [List.length_singleton]; omega)
 have ert : p.rt w = p.rtF (p.ws.length + 1) ((List.replicate p.ws.length ⟨0, 1⟩).set w ⟨1, 1⟩) [(w : Int)] := by rw [Piece.rt, Int.toNat_natCast]
 rw [← ert] at this
 cases hR : p.rt w with
 | go out l =>
  rw [hR] at this
  obtain ⟨rfl, done, J⟩ := this
  left
  have hcov : ∀ b, b < p.ws.length → (out.getD b default).num ≠ 0 → done b := fun b hb hn => by
   rcases J.cov b hb hn with h | h | h
   ·cases h
   ·exact h
   ·exact h.elim
  have hne : ∀ b, p.Re w b → (out.getD b default).num ≠ 0 := fun b hb => by
   induction hb with
   | refl => rw [J.one]; decide
   | step h1 h2 h3 h4 ih =>
    rename_i a b
    obtain ⟨d1, d2, d3⟩ := J.dn a (hcov a (Re_lt hw h1) ih)
    rw [show out.getD b default = _ from (d3 b h2 h3).2 h4]
    exact stp_ne hM d1 d2
  have hpw : M ^ (p.ws.length - 1 - unk out) ≤ M ^ (p.ws.length - 1) := Nat.pow_le_pow_right h1M (by omega)
  exact ⟨out, rfl, {
   len := J.len
   zer := fun b hb hn => J.zer b hb (by
    refine Classical.byContradiction fun h => hn (J.re b hb h))
   ne := hne
   low := fun b hb => J.low b (Re_lt hw hb) (hne b hb)
   bd := fun b hb => by
    have := J.bd b (Re_lt hw hb) (hne b hb)
    omega
   lab := ⟨J.one, fun a b h1 h2 h3 => (J.dn a (hcov a (Re_lt hw h1) (hne a h1))).2.2 b h2 h3⟩ }⟩
 | locked x y =>
  rw [hR] at this
  exact .inr ⟨⟨x, y, rfl⟩, this⟩
 | none => rw [hR] at this; exact this.elim
end
end Go.Tel
namespace Go.Tel
open Go.Am
def gcdI (a b : Int) : Int := (Nat.gcd a.natAbs b.natAbs : Nat)
theorem turn_scale {c n d : Int} (hc : 1 ≤ c) (hd : 1 ≤ d) : turnS (c * n) (c * d) = turnS n d := by
 have h1 : 1 ≤ c * d := by have := Int.mul_le_mul hc hd (by omega) (by omega); omega
 refine low_eq (turn_low h1) (turn_low hd) ?_
 have e1 := turn_val (n := c * n) (d := c * d)
 have e2 := turn_val (n := n) (d := d)
 generalize turnS (c * n) (c * d) = q at *
 generalize turnS n d = r at *
 have hcd : c * d ≠ 0 := by omega
 refine Int.eq_of_mul_eq_mul_right hcd ?_
 calc q.num * r.den * (c * d) = q.num * (c * d) * r.den := by ac_rfl
  _ = c * n * q.den * r.den := by rw [e1]
  _ = n * r.den * (c * q.den) := by ac_rfl
  _ = r.num * d * (c * q.den) := by rw [e2]
  _ = r.num * q.den * (c * d) := by ac_rfl
theorem gcdI_pos {a b : Int} (h : b ≠ 0) : 1 ≤ gcdI a b := by
 have : 0 < Nat.gcd a.natAbs b.natAbs := Nat.gcd_pos_of_pos_right _ (by omega)
 rw [gcdI]; omega
theorem gcdI_l (a b : Int) : gcdI a b * a.tdiv (gcdI a b) = a := Int.mul_tdiv_cancel' (Int.ofNat_dvd_left.2 (Nat.gcd_dvd_left _ _))
theorem gcdI_r (a b : Int) : gcdI a b * b.tdiv (gcdI a b) = b := Int.mul_tdiv_cancel' (Int.ofNat_dvd_left.2 (Nat.gcd_dvd_right _ _))
inductive RrR where
 | go (out : List Tn) (left : List Int)
 | locked
 | none
 deriving DecidableEq, Inhabited
structure Rel (n : Nat) (out out' : List Tn) : Prop where
 l1 : out.length = n
 l2 : out'.length = n
 eq : ∀ b, b < n → ((out.getD b default).num = 0 ∧ out'.getD b default = ⟨0, 0⟩ ∧ out.getD b default = ⟨0, 1⟩) ∨ ((out.getD b default).num ≠ 0 ∧ 1 ≤ (out.getD b default).den ∧ out'.getD b default = out.getD b default)
theorem Rel.set {n : Nat} {out out' : List Tn} (h : Rel n out out') {b : Nat} (hb : b < n) {v : Tn} (hv : v.num ≠ 0) (hd : 1 ≤ v.den) : Rel n (out.set b v) (out'.set b v) := {
 l1 := by rw [List.length_set]; exact h.l1
 l2 := by rw [List.length_set]; exact h.l2
 eq := fun c hc => by
  rw [getD_set (by rw [h.l1]; exact hb), getD_set (by rw [h.l2]; exact hb)]
  split
  ·exact .inr ⟨hv, hd, rfl⟩
  ·exact h.eq c hc }
section
variable {p : Piece} {w M : Nat} (hM : ∀ w ∈ p.ws, 1 ≤ w.teeth ∧ w.teeth ≤ M) (h1M : 1 ≤ M) (hw : w < p.ws.length) (hms : ∀ m ∈ p.ms, m.a < m.b)
include hM h1M hms
include hw
end
end Go.Tel
namespace Go.Tel
open Go.Am
def divT (q o : Tn) : Tn := turnS (q.num * (o.den * o.num.sign)) (q.den * o.num.natAbs)
theorem sign_mul (n : Int) : n * n.sign = n.natAbs := Int.mul_sign_self n
theorem abs_pos {n : Int} (h : n ≠ 0) : (1 : Int) ≤ n.natAbs := by omega
theorem mul_pos1 {a b : Int} (ha : 1 ≤ a) (hb : 1 ≤ b) : 1 ≤ a * b := by have := Int.mul_le_mul ha hb (by omega) (by omega); omega
theorem divT_self {o : Tn} (h : o.num ≠ 0) (hd : 1 ≤ o.den) : divT o o = ⟨1, 1⟩ := by
 have hp := mul_pos1 hd (abs_pos h)
 have e1 : o.num * (o.den * o.num.sign) = o.den * (o.num.natAbs : Int) * 1 := by rw [← sign_mul]; ac_rfl
 have e2 : o.den * (o.num.natAbs : Int) = o.den * (o.num.natAbs : Int) * 1 := (Int.mul_one _).symm
 rw [divT, e1]
 conv => lhs; arg 2; rw [e2]
 rw [turn_scale hp (by omega)]; rfl
theorem divT_one {o : Tn} (h : o.num ≠ 0) (hl : o.low) : divT ⟨1, 1⟩ o = ⟨o.den * o.num.sign, o.num.natAbs⟩ := by
 refine low_eq (turn_low (by have := abs_pos h; simp only [Int.one_mul]; omega)) ⟨abs_pos h, ?_⟩ ?_
 ·rw [Int.natAbs_mul, Int.natAbs_sign_of_ne_zero h, Nat.mul_one, Int.natAbs_natCast, Nat.gcd_comm]; exact hl.gcd
 ·have := turn_val (n := 1 * (o.den * o.num.sign)) (d := 1 * (o.num.natAbs : Int))
  simp only [divT]
  simp only [Int.one_mul] at this ⊢
  exact this
section
variable {p : Piece} {w M : Nat} (hM : ∀ w ∈ p.ws, 1 ≤ w.teeth ∧ w.teeth ≤ M) (hw : w < p.ws.length)
include hM hw
theorem found_other {t : List Tn} (F : p.Found w M t) {o : Nat} (ho : p.Re w o) : p.Lab o fun c => divT (t.getD c default) (t.getD o default) := by
 have hno := F.ne o ho
 have hlo := F.low o ho
 refine ⟨divT_self hno hlo.den, fun a b ha hb hba => ?_⟩
 have hra := Re_trans ho ha
 have hal := Re_lt hw hra
 obtain ⟨g1, g2⟩ := F.lab.agr a b hra hb hba
 refine ⟨g1, fun ht => ?_⟩
 have g2 : t.getD b default = p.stp a b (t.getD a default) := g2 ht
 have hrb : p.Re w b := .step hra hb hba ht
 have la := F.low a hra
 have lb := F.low b hrb
 have hna := F.ne a hra
 have ta := (wh_teeth hM hal).1
 have tb := (wh_teeth hM hb).1
 simp only
 generalize t.getD a default = A at *
 generalize t.getD b default = B at *
 generalize t.getD o default = O at *
 have hO := abs_pos hno
 have hA1 : 1 ≤ A.den * (O.num.natAbs : Int) := mul_pos1 la.den hO
 have hB1 : 1 ≤ B.den * (O.num.natAbs : Int) := mul_pos1 lb.den hO
 have LA : (divT A O).low := turn_low hA1
 have LB : (divT B O).low := turn_low hB1
 have e1 : (divT A O).num * (A.den * (O.num.natAbs : Int)) = A.num * (O.den * O.num.sign) * (divT A O).den := turn_val
 have e2 : (divT B O).num * (B.den * (O.num.natAbs : Int)) = B.num * (O.den * O.num.sign) * (divT B O).den := turn_val
 refine low_eq LB (stp_low hM hb LA) ?_
 have hst : ∀ q : Tn, p.stp a b q = if p.mesh a b then turnS (-q.num * (p.wh a).teeth) (q.den * (p.wh b).teeth) else q := fun q => by
  rw [Piece.stp, Piece.joined]; split <;> rfl
 rw [hst] at g2 ⊢
 generalize (divT A O) = X at *
 generalize (divT B O) = Y at *
 cases hm : p.mesh a b
 ·rw [hm, if_neg (by decide)] at g2
  rw [if_neg (by decide)]
  subst g2
  have hz : B.den * (O.num.natAbs : Int) ≠ 0 := by omega
  refine Int.eq_of_mul_eq_mul_right hz ?_
  calc Y.num * X.den * (B.den * (O.num.natAbs : Int)) = Y.num * (B.den * (O.num.natAbs : Int)) * X.den := by ac_rfl
   _ = B.num * (O.den * O.num.sign) * Y.den * X.den := by rw [e2]
   _ = B.num * (O.den * O.num.sign) * X.den * Y.den := by ac_rfl
   _ = X.num * (B.den * (O.num.natAbs : Int)) * Y.den := by rw [e1]
   _ = X.num * Y.den * (B.den * (O.num.natAbs : Int)) := by ac_rfl
 ·rw [hm, if_pos rfl] at g2
  rw [if_pos rfl]
  have e3 := turn_val (n := -X.num * (p.wh a).teeth) (d := X.den * (p.wh b).teeth)
  have e4 := turn_val (n := -A.num * (p.wh a).teeth) (d := A.den * (p.wh b).teeth)
  rw [← g2] at e4
  generalize turnS (-X.num * (p.wh a).teeth) (X.den * (p.wh b).teeth) = Z at *
  generalize (p.wh a).teeth = s at *
  generalize (p.wh b).teeth = u at *
  generalize hr : (O.num.natAbs : Int) = r at *
  generalize O.den * O.num.sign = v at *
  have hdx := LA.den
  have hda := la.den
  have hdb := lb.den
  have hz : X.den * u * (B.den * r) * A.den ≠ 0 := by
   have i1 := mul_pos1 (mul_pos1 (mul_pos1 hdx tb) (mul_pos1 hdb hO)) hda
   omega
  refine Int.eq_of_mul_eq_mul_right hz ?_
  grind
theorem found_mesh {t : List Tn} (F : p.Found w M t) {a b : Nat} (ha : a < p.ws.length) (hb : b < p.ws.length) (hba : b ≠ a) (hm : p.mesh a b = true) :
  (t.getD a default).num * (p.wh a).teeth * (t.getD b default).den + (t.getD b default).num * (p.wh b).teeth * (t.getD a default).den = 0 ∧ ((t.getD a default).num = 0 ↔ (t.getD b default).num = 0) := by
 have ht : p.tied a b = true := by rw [Piece.tied, hm]; rfl
 by_cases hr : p.Re w a
 ·have hrb : p.Re w b := .step hr hb hba ht
  have g2 : t.getD b default = p.stp a b (t.getD a default) := (F.lab.agr a b hr hb hba).2 ht
  rw [Piece.stp, Piece.joined, hm, if_pos rfl] at g2
  have e4 := turn_val (n := -(t.getD a default).num * (p.wh a).teeth) (d := (t.getD a default).den * (p.wh b).teeth)
  rw [show turnS (-(t.getD a default).num * (p.wh a).teeth) ((t.getD a default).den * (p.wh b).teeth) = t.getD b default from g2.symm] at e4
  refine ⟨?_, fun h => absurd h (F.ne a hr), fun h => absurd h (F.ne b hrb)⟩
  grind
 ·have hrb : ¬ p.Re w b := fun h => hr (.step h ha (Ne.symm hba) (by rw [tied_comm]; exact ht))
  rw [F.zer a ha hr, F.zer b hb hrb]
  exact ⟨by simp, Iff.rfl⟩
theorem found_sleeve {t : List Tn} (F : p.Found w M t) {a b : Nat} (ha : a < p.ws.length) (hb : b < p.ws.length) (hba : b ≠ a) (hs : p.sleeved a b = true) : t.getD a default = t.getD b default := by
 have ht : p.tied a b = true := by rw [Piece.tied, hs, Bool.or_true]
 by_cases hr : p.Re w a
 ·obtain ⟨g1, g2⟩ := F.lab.agr a b hr hb hba
  have g2 : t.getD b default = p.stp a b (t.getD a default) := g2 ht
  rw [hs, Bool.and_true] at g1
  rw [Piece.stp, Piece.joined, g1, if_neg (by decide)] at g2
  exact g2.symm
 ·have hrb : ¬ p.Re w b := fun h => hr (.step h ha (Ne.symm hba) (by rw [tied_comm]; exact ht))
  rw [F.zer a ha hr, F.zer b hb hrb]
end
end Go.Tel
namespace Go.Tel
open Go.Am
section
variable {p q : Piece} {gone : List Int} {M : Nat} (hok : p.ok = true) (h1 : q.ws = (p.rwithout gone).ws) (h2 : q.ms = (p.rwithout gone).ms)
include hok h1 h2
end
theorem Piece.ok_50 {p : Piece} (h : p.ok = true) : ∀ w ∈ p.ws, 1 ≤ w.teeth ∧ w.teeth ≤ (50 : Nat) := fun w hw => by
 have := Piece.ok_teeth h w hw
 omega
theorem pow_50 {p : Piece} (h : p.ok = true) : 50 ^ (p.ws.length - 1) ≤ 1000000000000000 := by
 have := (Piece.ok_lens h).2.1
 exact Nat.le_trans (Nat.pow_le_pow_right (by decide) (show p.ws.length - 1 ≤ 7 by omega)) (by decide)
theorem rt_ok {p : Piece} (h : p.ok = true) {w : Nat} (hw : w < p.ws.length) : (∃ out, p.rt w = .go out [] ∧ p.Found w 50 out) ∨ (∃ a b, p.rt w = .locked a b) ∧ ¬ ∃ T, p.Lab w T :=
 rt_spec (Piece.ok_50 h) (by decide) hw (pow_50 h) (by have := (Piece.ok_lens h).2.1; omega)
theorem rt_not {p : Piece} (h : p.ok = true) {w : Int} (hw : p.isW w) : p.rt w ≠ .none := by
 obtain ⟨w1, w2⟩ := hw
 obtain ⟨n, rfl⟩ := Int.eq_ofNat_of_zero_le w1
 rw [Int.toNat_natCast] at w2
 rcases rt_ok h w2 with ⟨out, h1, _⟩ | ⟨⟨a, b, h1⟩, _⟩ <;> (rw [h1]; intro hh; cases hh)
end Go.Tel
open Nat renaming reduceBEq → qA, reduceAdd → qB, reduceSub → qC, reduceEqDiff → qD, reduceLT → qE, reduceLeDiff → qF
namespace Go.Tel
open Go.Am
set_option maxRecDepth 10000 in
theorem rGCD_c (a b : Nat) : Pure C F.ref_GCD [.int .i64 a, .int .i64 b] (.d (.int .i64 (Nat.gcd a b : Nat))) [] := by
 refine pure_of_pwp_d mixed rfl ok_ref_GCD ?_
 simp only [pc_ref_GCD, rs_ref_GCD, RN, qA, qB, qC, qD, qE, qF]
 refine pwp_while (fun (q : Nat × Nat) => ⟨[(0, .d (.int .i64 q.1)), (1, .d (.int .i64 q.2))], ⟨[], [], []⟩⟩) (fun q => Nat.gcd q.1 q.2 = Nat.gcd a b) (fun q => q.2) (a, b) rfl rfl (fun q hq => ?_)
 by_cases hz : q.2 = 0
 ·have hb : ¬ ((q.2 : Int) > 0) := by omega
  simp only [hb, RN, qA, qB, qC, qD, qE, qF]
  rw [hz, Nat.gcd_zero_right] at hq
  rw [hq]
 ·have hb : ((q.2 : Int) > 0) := by omega
  have hne : ((q.2 : Int) ≠ 0) := by omega
  have ht : (q.1 : Int).tmod (q.2 : Int) = ((q.1 % q.2 : Nat) : Int) := (Int.ofNat_tmod q.1 q.2).symm
  simp only [hb, hne, ht, RN, qA, qB, qC, qD, qE, qF]
  exact wh_same (q.2, q.1 % q.2) (Nat.mod_lt _ (by omega)) rfl (by simp only; rw [Nat.gcd_comm, ← Nat.gcd_rec, Nat.gcd_comm]; exact hq) (by simp) (by simp) rfl rfl
theorem rGCD_i {a b : Int} (ha : 0 ≤ a) (hb : 0 ≤ b) : Pure C F.ref_GCD [.int .i64 a, .int .i64 b] (.d (.int .i64 (gcdI a b))) [] := by
 have := rGCD_c a.natAbs b.natAbs
 rw [Int.natAbs_of_nonneg ha, Int.natAbs_of_nonneg hb] at this
 exact this
theorem neg_abs {n : Int} : (if -n > n then -n else n) = (n.natAbs : Int) := by split <;> omega
theorem mul_le {a b : Int} {k l : Nat} (h1 : a.natAbs ≤ k) (h2 : b.natAbs ≤ l) : (a * b).natAbs ≤ k * l := by rw [Int.natAbs_mul]; exact Nat.mul_le_mul h1 h2
structure RrS where
 out : List Tn
 ls : List Int
 s : Nat
 ver : Nat
end Go.Tel
open Nat renaming reduceBEq → qA, reduceAdd → qB, reduceSub → qC, reduceEqDiff → qD, reduceLT → qE, reduceLeDiff → qF
namespace Go.Tel
open Go.Am
end Go.Tel
