/-
  Part 2 of the proof of a law of plates, the law itself: an abstract machine over the model, contracts of functions, plain laws.
  Conditions: none.
-/
import Derived.Test.YticjmjdcggomgaaGreatDoorPlateLessL01
set_option linter.all false
namespace Go.Tel
end Go.Tel
open Nat renaming reduceBEq → qA, reduceAdd → qB, reduceSub → qC, reduceEqDiff → qD, reduceLT → qE, reduceLeDiff → qF
namespace Go.Tel
open Go.Am
theorem cellsEq_pt (x y : Pt) : cellsEq [1, 1] [.int .i64 x.x, .int .i64 x.y] [.int .i64 y.x, .int .i64 y.y] = some (decide (x = y)) := by
 obtain ⟨a, b⟩ := x
 obtain ⟨c, d⟩ := y
 by_cases h1 : a = c <;> by_cases h2 : b = d <;> simp [cellsEq, h1, h2]
theorem cellsEq_ms (x y : Ms) : cellsEq [1, 1] [.int .i64 x.a, .int .i64 x.b] [.int .i64 y.a, .int .i64 y.b] = some (decide (x = y)) := by
 obtain ⟨a, b⟩ := x
 obtain ⟨c, d⟩ := y
 by_cases h1 : a = c <;> by_cases h2 : b = d <;> simp [cellsEq, h1, h2]
set_option maxRecDepth 10000 in
set_option maxHeartbeats 4000000 in
theorem rPiece_c (p : Piece) (hc : p.cs.length ≤ 1000) (hw : p.ws.length ≤ 1000) (hm : p.ms.length ≤ 1000) : Pure C F.ref_Piece [p.dv] (.d (.bool p.ok)) [] := by
 refine pure_of_pwp_d mixed rfl ok_ref_Piece ?_
 simp only [pc_ref_Piece, rs_ref_Piece, dv_Piece, RN, qA, qB, qC, qD, qE, qF]
 by_cases hh : p.headOk = true
 case neg =>
  have hok : p.ok = false := by simp [Piece.ok, hh]
  rw [hok]
  repeat' first
   | (refine call_d rfl rfl (rin_c _ _ _) ?_; try simp only [RN, qA, qB, qC, qD, qE, qF])
   | (refine guard_split (by rfl) (fun hB => ?_) (fun hB => ?_) <;> simp only [hB, RN, qA, qB, qC, qD, qE, qF])
   | (refine cond_split (by rfl) (fun hB => ?_) (fun hB => ?_) <;> simp only [hB, RN, qA, qB, qC, qD, qE, qF])
  all_goals (first | rfl | (exfalso; simp_all [Piece.headOk]; done))
 have hh' := hh
 simp only [Piece.headOk, Bool.and_eq_true] at hh'
 obtain ⟨⟨⟨⟨a1, a2⟩, a3⟩, a4⟩, a5⟩ := hh'
 refine call_d rfl rfl (rin_c _ _ _) ?_
 simp only [a1, RN, qA, qB, qC, qD, qE, qF]
 refine call_d rfl rfl (rin_c _ _ _) ?_
 simp only [a2, RN, qA, qB, qC, qD, qE, qF]
 refine call_d rfl rfl (rin_c _ _ _) ?_
 simp only [a3, RN, qA, qB, qC, qD, qE, qF]
 refine call_d rfl rfl (rin_c _ _ _) ?_
 simp only [a4, RN, qA, qB, qC, qD, qE, qF]
 refine call_d rfl rfl (rin_c _ _ _) ?_
 simp only [a5, List.length_map, RN, qA, qB, qC, qD, qE, qF]
 refine call_d rfl rfl (rin_c _ _ _) ?_
 by_cases l1 : inR p.cs.length 1 6 = true
 case neg =>
  have l1' : inR p.cs.length 1 6 = false := by simpa using l1
  simp only [l1', RN, qA, qB, qC, qD, qE, qF]
  simp [Piece.ok, Piece.lensOk, l1']
 by_cases l2 : p.ws.length ≤ 8
 case neg =>
  have b2 : (p.ws.length : Int) > 8 := by omega
  simp only [l1, b2, List.length_map, RN, qA, qB, qC, qD, qE, qF]
  simp [Piece.ok, Piece.lensOk, l1, b2]
 have b2 : ¬ (p.ws.length : Int) > 8 := by omega
 by_cases l3 : p.ms.length ≤ 10
 case neg =>
  have b3 : (p.ms.length : Int) > 10 := by omega
  simp only [l1, b2, b3, List.length_map, RN, qA, qB, qC, qD, qE, qF]
  simp [Piece.ok, Piece.lensOk, l1, b2, b3]
 have b3 : ¬ (p.ms.length : Int) > 10 := by omega
 simp only [l1, b2, b3, List.length_map, RN, qA, qB, qC, qD, qE, qF]
 have hlens : p.lensOk = true := by simp [Piece.lensOk, l1, b2, b3]
 have hok : p.ok = (ptsOk p.w p.h [] p.cs && mssOk p.ws.length [] p.ms && p.ws.all (whOk p.cs.length)) := by simp [Piece.ok, hh, hlens]
 rw [hok]
 refine pwp_range p.cs.length (fun i (_ : Unit) => ⟨[(1, .d (.cptr p.cells)), (3, .d (.int .i64 i))], ⟨[some (p.cells.map .d)], [0], []⟩⟩)
  (fun i _ => ptsOk p.w p.h [] p.cs = ptsOk p.w p.h (p.cs.take i) (p.cs.drop i)) 0 () (Nat.zero_le _) rfl (by simp) (fun i _ g1 hix => ?_) (fun _ hix => ?_)
 ·obtain ⟨g2, g3, g6⟩ := rng g1 (by omega)
  rw [drop_cons g1, ptsOk, ← take_snoc g1] at hix
  simp only [Piece.cells, g2, g3, g1, getD_map, Int.toNat_natCast, List.length_map, dv_Pt, List.not_mem_nil, RN, qA, qB, qC, qD, qE, qF]
  have hci : p.cs.getD i default = p.cs.getD i default := rfl
  generalize hcg : p.cs.getD i default = c at *
  refine call_d rfl rfl (rin_c _ _ _) ?_
  by_cases x1 : inR c.x 0 p.w = true
  case neg =>
   have x1' : inR c.x 0 p.w = false := by simpa using x1
   simp only [x1', RN, qA, qB, qC, qD, qE, qF]
   simp [hix, x1']
  simp only [x1, RN, qA, qB, qC, qD, qE, qF]
  refine call_d rfl rfl (rin_c _ _ _) ?_
  by_cases x2 : inR c.y 0 p.h = true
  case neg =>
   have x2' : inR c.y 0 p.h = false := by simpa using x2
   simp only [x2', RN, qA, qB, qC, qD, qE, qF]
   simp [hix, x2']
  simp only [x2, RN, qA, qB, qC, qD, qE, qF]
  rw [x1, x2, Bool.true_and, Bool.true_and] at hix
  refine pwp_range i (fun k (_ : Unit) => ⟨[(1, .d (.cptr p.cells)), (3, .d (.int .i64 i)), (4, .d (.cptr [.int .i64 c.x, .int .i64 c.y])), (5, .d (.int .i64 k))], ⟨[some (p.cells.map .d), some [.d (.int .i64 c.x), .d (.int .i64 c.y)]], [1, 0], []⟩⟩)
   (fun k _ => c ∉ p.cs.take k) 0 () (Nat.zero_le _) rfl (by simp) (fun k _ e1 hk => ?_) (fun _ hk => ?_)
  ·obtain ⟨e2, e3, e6⟩ := rng e1 (by omega)
   have e1' : k < p.cs.length := by omega
   simp only [Piece.cells, e2, e3, e1', getD_map, Int.toNat_natCast, List.length_map, dv_Pt, RN, qA, qB, qC, qD, qE, qF]
   rw [ev_binA (cellsEq_pt _ _)]
   by_cases he : p.cs.getD k default = c
   ·rw [decide_eq_true he]
    have hx : (true != false) = true := rfl
    have hmem : c ∈ p.cs.take i := by
     rw [← he, List.getD_eq_getElem?_getD, List.getElem?_eq_getElem e1']
     exact List.mem_take_iff_getElem.2 ⟨k, by omega, rfl⟩
    simp only [hx, RN, qA, qB, qC, qD, qE, qF]
    simp [hix, hmem]
   ·rw [decide_eq_false he]
    have hx : (false != false) = false := rfl
    simp only [hx, e6, RN, qA, qB, qC, qD, qE, qF]
    exact up_same () e1 rfl (by rw [take_snoc e1']; simp only [List.mem_append, List.mem_singleton, not_or]; exact ⟨hk, fun h => he h.symm⟩) (by simp) (by simp) rfl rfl
  ·have hcn : (p.cs.take i).contains c = false := by simpa using hk
   rw [hcn, Bool.not_false, Bool.true_and] at hix
   simp only [Int.lt_irrefl, g6, RN, qA, qB, qC, qD, qE, qF]
   exact up_take 1 0 () g1 rfl hix (by simp) (by simp) rfl rfl
 ·rw [List.drop_length, ptsOk] at hix
  simp only [Piece.cells, Int.lt_irrefl, List.length_map, RN, qA, qB, qC, qD, qE, qF]
  rw [hix, Bool.true_and]
  refine pwp_range p.ws.length (fun i (_ : Unit) => ⟨[(1, .d (.cptr p.cells)), (6, .d (.int .i64 i))], ⟨[some (p.cells.map .d)], [0], []⟩⟩)
   (fun i _ => p.ws.all (whOk p.cs.length) = (p.ws.drop i).all (whOk p.cs.length)) 0 () (Nat.zero_le _) rfl (by simp) (fun i _ g1 hjx => ?_) (fun _ hjx => ?_)
  ·obtain ⟨g2, g3, g6⟩ := rng g1 (by omega)
   have wl : IntKind.i64.wrap ((p.cs.length : Int) - 1) = (p.cs.length : Int) - 1 := w64_in (by omega)
   rw [drop_cons g1, List.all_cons] at hjx
   simp only [Piece.cells, g2, g3, g1, getD_map, Int.toNat_natCast, List.length_map, dv_Wh, List.not_mem_nil, wl, RN, qA, qB, qC, qD, qE, qF]
   generalize p.ws.getD i default = w at *
   refine call_d rfl rfl (rin_c _ _ _) ?_
   by_cases x1 : inR w.centre 0 ((p.cs.length : Int) - 1) = true
   case neg =>
    have x1' := eq_false_of_ne_true x1
    simp only [x1', RN, qA, qB, qC, qD, qE, qF]
    simp [hjx, whOk, x1']
   simp only [x1, RN, qA, qB, qC, qD, qE, qF]
   refine call_d rfl rfl (rin_c _ _ _) ?_
   by_cases x2 : inR w.sleeve 0 2 = true
   case neg =>
    have x2' := eq_false_of_ne_true x2
    simp only [x2', RN, qA, qB, qC, qD, qE, qF]
    simp [hjx, whOk, x2']
   simp only [x2, RN, qA, qB, qC, qD, qE, qF]
   refine call_d rfl rfl (rin_c _ _ _) ?_
   by_cases x3 : inR w.layer 0 5 = true
   case neg =>
    have x3' := eq_false_of_ne_true x3
    simp only [x3', RN, qA, qB, qC, qD, qE, qF]
    simp [hjx, whOk, x3']
   simp only [x3, RN, qA, qB, qC, qD, qE, qF]
   refine call_d rfl rfl (rin_c _ _ _) ?_
   by_cases x4 : inR w.teeth 4 50 = true
   case neg =>
    have x4' := eq_false_of_ne_true x4
    simp only [x4', RN, qA, qB, qC, qD, qE, qF]
    simp [hjx, whOk, x4']
   simp only [x4, g6, RN, qA, qB, qC, qD, qE, qF]
   exact up_take 1 0 () g1 rfl (by rw [hjx]; simp [whOk, x1, x2, x3, x4]) (by simp) (by simp) rfl rfl
  rw [List.drop_length, List.all_nil] at hjx
  rw [hjx, Bool.and_true]
  simp only [Piece.cells, Int.lt_irrefl, List.length_map, RN, qA, qB, qC, qD, qE, qF]
  refine pwp_range p.ms.length (fun i (_ : Unit) => ⟨[(1, .d (.cptr p.cells)), (8, .d (.int .i64 i))], ⟨[some (p.cells.map .d)], [0], []⟩⟩)
   (fun i _ => mssOk p.ws.length [] p.ms = mssOk p.ws.length (p.ms.take i) (p.ms.drop i)) 0 () (Nat.zero_le _) rfl (by simp) (fun i _ g1 hkx => ?_) (fun _ hkx => ?_)
  ·obtain ⟨g2, g3, g6⟩ := rng g1 (by omega)
   have hwc : ∀ n, Pure C F.ref_Wheel [.agg p.cells, .int .i64 n] (.d (.bool (inR n 0 (p.ws.length - 1)))) [] := fun n => by
    have := rWheel_c p n (by omega)
    rw [dv_Piece] at this
    exact this
   rw [drop_cons g1, mssOk, ← take_snoc g1] at hkx
   simp only [Piece.cells, g2, g3, g1, getD_map, Int.toNat_natCast, List.length_map, dv_Ms, List.not_mem_nil, RN, qA, qB, qC, qD, qE, qF]
   generalize p.ms.getD i default = c at *
   refine call_d rfl rfl (hwc _) ?_
   by_cases x1 : inR c.a 0 ((p.ws.length : Int) - 1) = true
   case neg =>
    have x1' := eq_false_of_ne_true x1
    simp only [x1', RN, qA, qB, qC, qD, qE, qF]
    simp [hkx, x1']
   simp only [x1, RN, qA, qB, qC, qD, qE, qF]
   refine call_d rfl rfl (hwc _) ?_
   by_cases x2 : inR c.b 0 ((p.ws.length : Int) - 1) = true
   case neg =>
    have x2' := eq_false_of_ne_true x2
    simp only [x2', RN, qA, qB, qC, qD, qE, qF]
    simp [hkx, x2']
   by_cases x3 : c.a ≥ c.b
   case pos =>
    simp only [x2, x3, RN, qA, qB, qC, qD, qE, qF]
    rw [hkx, decide_eq_true x3]
    simp
   simp only [x2, x3, RN, qA, qB, qC, qD, qE, qF]
   rw [x1, x2, decide_eq_false x3, Bool.not_false, Bool.true_and, Bool.true_and, Bool.true_and] at hkx
   refine pwp_range i (fun k (_ : Unit) => ⟨[(1, .d (.cptr p.cells)), (8, .d (.int .i64 i)), (9, .d (.cptr [.int .i64 c.a, .int .i64 c.b])), (10, .d (.int .i64 k))], ⟨[some (p.cells.map .d), some [.d (.int .i64 c.a), .d (.int .i64 c.b)]], [1, 0], []⟩⟩)
    (fun k _ => c ∉ p.ms.take k) 0 () (Nat.zero_le _) rfl (by simp) (fun k _ e1 hk => ?_) (fun _ hk => ?_)
   ·obtain ⟨e2, e3, e6⟩ := rng e1 (by omega)
    have e1' : k < p.ms.length := by omega
    simp only [Piece.cells, e2, e3, e1', getD_map, Int.toNat_natCast, List.length_map, dv_Ms, RN, qA, qB, qC, qD, qE, qF]
    rw [ev_binA (cellsEq_ms _ _)]
    by_cases he : p.ms.getD k default = c
    ·rw [decide_eq_true he]
     have hx : (true != false) = true := rfl
     have hmem : c ∈ p.ms.take i := by
      rw [← he, List.getD_eq_getElem?_getD, List.getElem?_eq_getElem e1']
      exact List.mem_take_iff_getElem.2 ⟨k, by omega, rfl⟩
     simp only [hx, RN, qA, qB, qC, qD, qE, qF]
     simp [hkx, hmem]
    ·rw [decide_eq_false he]
     have hx : (false != false) = false := rfl
     simp only [hx, e6, RN, qA, qB, qC, qD, qE, qF]
     exact up_same () e1 rfl (by rw [take_snoc e1']; simp only [List.mem_append, List.mem_singleton, not_or]; exact ⟨hk, fun h => he h.symm⟩) (by simp) (by simp) rfl rfl
   ·have hcn : (p.ms.take i).contains c = false := by simpa using hk
    rw [hcn, Bool.not_false, Bool.true_and] at hkx
    simp only [Int.lt_irrefl, g6, RN, qA, qB, qC, qD, qE, qF]
    exact up_take 1 0 () g1 rfl hkx (by simp) (by simp) rfl rfl
  ·rw [List.drop_length, mssOk] at hkx
   simp only [Piece.cells, Int.lt_irrefl, List.length_map, RN, qA, qB, qC, qD, qE, qF]
   rw [hkx]
end Go.Tel
open Nat renaming reduceBEq → qA, reduceAdd → qB, reduceSub → qC, reduceEqDiff → qD, reduceLT → qE, reduceLeDiff → qF
namespace Go.Tel
open Go.Am
def Piece.rmeshed (p : Piece) (a b : Int) : Bool := p.ms.any fun m => (m.a == a && m.b == b) || (m.a == b && m.b == a)
def rfold (o : Wh) : List Wh → Int × Int → Int × Int
 | [], r => r
 | w :: l, r => rfold o l (if w.centre == o.centre && w.sleeve == o.sleeve then (min r.1 w.layer, max r.2 w.layer) else r)
def Piece.rwithin (p : Piece) (i o : Int) : Bool :=
 decide ((p.wh i).sleeve < (p.wh o).sleeve) && decide ((p.wh i).layer > (rfold (p.wh o) p.ws ((p.wh o).layer, (p.wh o).layer)).1) && decide ((p.wh i).layer < (rfold (p.wh o) p.ws ((p.wh o).layer, (p.wh o).layer)).2)
def Piece.rnear (p : Piece) (a b n : Int) : Bool := decide (p.far a b < n * n)
def Piece.rmeets (p : Piece) (a b : Int) : Int :=
 if a = b then (if p.edged a then 1 else 0)
 else if p.rmeshed a b && (!p.level a b || p.centred a b || p.rnear a b (p.sum a b) || decide (p.far a b > (p.sum a b + p.pl) * (p.sum a b + p.pl))) then 2
 else if !p.rmeshed a b && p.level a b && !p.centred a b && p.rnear a b (p.sum a b + p.ga) then 3
 else if p.centred a b && p.level a b then 4
 else if p.centred a b && (p.rwithin a b || p.rwithin b a) then 5
 else if !p.centred a b && (decide ((p.wh a).layer ≤ (p.wh b).layer) && p.rnear a b ((p.wh a).teeth + p.po) || decide ((p.wh b).layer ≤ (p.wh a).layer) && p.rnear a b ((p.wh b).teeth + p.po)) then 6
 else 0
theorem range_getD {n i : Nat} (h : i < n) : (List.range n).getD i default = i := by
 rw [List.getD_eq_getElem?_getD, List.getElem?_range h]; rfl
end Go.Tel
namespace Go.Tel
open Go.Am
theorem mssOk_lt {n : Int} : ∀ {pre ms : List Ms}, mssOk n pre ms = true → ∀ m ∈ ms, 0 ≤ m.a ∧ m.a < m.b ∧ m.b ≤ n - 1
 | _, [], _, m, h => by cases h
 | pre, x :: ms, h, m, hm => by
  simp only [mssOk, inR, Bool.and_eq_true, decide_eq_true_eq, Bool.not_eq_true', decide_eq_false_iff_not, ge_iff_le] at h
  rcases List.mem_cons.1 hm with rfl | hm
  ·omega
  ·exact mssOk_lt h.2 m hm
theorem ok_mss {p : Piece} (h : p.ok = true) : ∀ m ∈ p.ms, 0 ≤ m.a ∧ m.a < m.b ∧ m.b ≤ p.ws.length - 1 := by
 simp only [Piece.ok, Bool.and_eq_true] at h
 exact mssOk_lt h.1.2
theorem mesh_same {p : Piece} (h : ∀ m ∈ p.ms, m.a < m.b) (a b : Int) : p.mesh a b = p.rmeshed a b := by
 rw [Bool.eq_iff_iff, Piece.mesh, List.contains_iff_mem, Piece.rmeshed, List.any_eq_true]
 constructor
 ·intro hm
  refine ⟨_, hm, ?_⟩
  simp only [Bool.or_eq_true, Bool.and_eq_true, beq_iff_eq]
  omega
 ·rintro ⟨⟨x, y⟩, hm, he⟩
  have := h _ hm
  simp only [Bool.or_eq_true, Bool.and_eq_true, beq_iff_eq] at he this
  have e : (⟨min a b, max a b⟩ : Ms) = ⟨x, y⟩ := by
   rw [Ms.mk.injEq]; omega
  rw [e]; exact hm
theorem bounds_same (p : Piece) (o : Int) : ∀ (ws : List Wh) (i : Nat) (r : Int × Int), p.ws.drop i = ws → p.bounds [] o i ws r = rfold (p.wh o) ws r
 | [], _, _, _ => rfl
 | w :: ws, i, r, h => by
  have hi : i < p.ws.length := by
   refine Nat.lt_of_not_le fun hh => ?_
   rw [List.drop_of_length_le hh] at h
   cases h
  have h2 := drop_cons hi
  rw [h] at h2
  obtain ⟨hw, ht⟩ := List.cons.inj h2
  have hwi : p.wh (i : Int) = w := by rw [Piece.wh, Int.toNat_natCast, ← hw]
  rw [Piece.bounds, rfold, bounds_same p o ws (i + 1) _ ht.symm]
  congr 1
  simp only [Piece.sleeved, Piece.centred, hwi, List.contains_nil, Bool.not_false, Bool.and_true]
theorem far_comm (p : Piece) (a b : Int) : p.far b a = p.far a b := by
 have e : ∀ x y : Int, sq (x - y) = sq (y - x) := fun x y => by
  rw [sq, sq, ← Int.neg_sub y x, Int.neg_mul_neg]
 rw [Piece.far, Piece.far, e (p.pt b).x, e (p.pt b).y]
theorem nested_same (p : Piece) (a b : Int) (hc : p.centred a b = true) (hl : p.level a b = false) : p.nested [] a b = (p.rwithin a b || p.rwithin b a) := by
 have e : ∀ o r, p.bounds [] o 0 p.ws r = rfold (p.wh o) p.ws r := fun o r => bounds_same p o p.ws 0 r rfl
 rw [Piece.nested]
 rcases Int.lt_trichotomy (p.wh a).sleeve (p.wh b).sleeve with h | h | h
 ·have hs : p.sleeved a b = false := by rw [Piece.sleeved, hc, Bool.true_and, beq_eq_false_iff_ne]; omega
  have h1 : ¬ (p.wh a).sleeve > (p.wh b).sleeve := by omega
  rw [hc, hs, hl, if_neg (by decide)]
  simp only [if_neg h1, e]
  rw [Bool.eq_iff_iff]
  simp only [inR, Piece.rwithin, Bool.or_eq_true, Bool.and_eq_true, decide_eq_true_eq]
  omega
 ·have hs : p.sleeved a b = true := by rw [Piece.sleeved, hc, Bool.true_and, beq_iff_eq]; exact h
  rw [hs]
  have h1 : ¬ (p.wh a).sleeve < (p.wh b).sleeve := by omega
  have h2 : ¬ (p.wh b).sleeve < (p.wh a).sleeve := by omega
  simp [Piece.rwithin, h1, h2]
 ·have hs : p.sleeved a b = false := by rw [Piece.sleeved, hc, Bool.true_and, beq_eq_false_iff_ne]; omega
  rw [hc, hs, hl, if_neg (by decide)]
  simp only [if_pos h, e]
  rw [Bool.eq_iff_iff]
  simp only [inR, Piece.rwithin, Bool.or_eq_true, Bool.and_eq_true, decide_eq_true_eq]
  omega
theorem wrong_same {p : Piece} (h : ∀ m ∈ p.ms, m.a < m.b) (a b : Int) : p.wrong [] a b = p.rmeets a b := by
 rw [Piece.wrong, Piece.rmeets]
 by_cases hab : a = b
 ·rw [if_pos hab, if_pos hab]
 rw [if_neg hab, if_neg hab]
 have e1 : p.apart a b = (p.rmeshed a b && (!p.level a b || p.centred a b || p.rnear a b (p.sum a b) || decide (p.far a b > (p.sum a b + p.pl) * (p.sum a b + p.pl)))) := by
  rw [Piece.apart, mesh_same h]; rfl
 have e2 : p.touch a b = (!p.rmeshed a b && p.level a b && !p.centred a b && p.rnear a b (p.sum a b + p.ga)) := by
  rw [Piece.touch, mesh_same h]; rfl
 rw [e1, e2]
 split
 ·rfl
 split
 ·rfl
 rw [Piece.same]
 split
 ·rfl
 rename_i hcl
 have e5 : p.nested [] a b = (p.centred a b && (p.rwithin a b || p.rwithin b a)) := by
  cases hc : p.centred a b
  ·simp [Piece.nested, hc]
  ·rw [Bool.true_and]
   refine nested_same p a b hc ?_
   cases hl : p.level a b
   ·rfl
   ·rw [hc, hl] at hcl; exact absurd rfl hcl
 have e6 : p.posted a b = (!p.centred a b && (decide ((p.wh a).layer ≤ (p.wh b).layer) && p.rnear a b ((p.wh a).teeth + p.po) || decide ((p.wh b).layer ≤ (p.wh a).layer) && p.rnear a b ((p.wh b).teeth + p.po))) := by
  rw [Piece.posted, Piece.post, Piece.post, far_comm p a b]; rfl
 rw [e5, e6]
end Go.Tel
open Nat renaming reduceBEq → qA, reduceAdd → qB, reduceSub → qC, reduceEqDiff → qD, reduceLT → qE, reduceLeDiff → qF
namespace Go.Tel
open Go.Am
set_option maxRecDepth 10000 in
theorem rListed_c (l : List Int) (n : Int) (hl : l.length ≤ 1000000) : Pure C F.ref_Listed [.slice false (l.map intDV), .int .i64 n] (.d (.bool (l.contains n))) [] := by
 refine pure_of_pwp_d mixed rfl ok_ref_Listed ?_
 simp only [pc_ref_Listed, rs_ref_Listed, RN, qA, qB, qC, qD, qE, qF]
 refine pwp_range l.length (fun i (_ : Unit) => ⟨[(0, .d (.slice false (l.map intDV))), (1, .d (.int .i64 n)), (5, .d (.int .i64 i))], ⟨[], [], []⟩⟩)
  (fun i _ => l.contains n = (l.drop i).contains n) 0 () (Nat.zero_le _) rfl rfl (fun i _ g1 hix => ?_) (fun _ hix => ?_)
 ·obtain ⟨g2, g3, g6⟩ := rng g1 hl
  rw [drop_cons g1, List.contains_cons] at hix
  by_cases he : l.getD i default = n
  ·have e1 : (l.getD i default == n) = true := beq_iff_eq.2 he
   rw [show (n == l.getD i default) = true from beq_iff_eq.2 he.symm, Bool.true_or] at hix
   simp only [List.length_map, g2, g3, g1, Int.toNat_natCast, getD_map, dv_int, e1, RN, qA, qB, qC, qD, qE, qF]
   rw [hix]
  ·have e1 : (l.getD i default == n) = false := beq_eq_false_iff_ne.2 he
   rw [show (n == l.getD i default) = false from beq_eq_false_iff_ne.2 (Ne.symm he), Bool.false_or] at hix
   simp only [List.length_map, g2, g3, g1, Int.toNat_natCast, getD_map, dv_int, e1, g6, RN, qA, qB, qC, qD, qE, qF]
   exact up_same () g1 rfl hix (by simp) (by simp) rfl rfl
 ·rw [List.drop_length] at hix
  simp only [Int.lt_irrefl, List.length_map, RN, qA, qB, qC, qD, qE, qF]
  rw [hix]; rfl
end Go.Tel
open Nat renaming reduceBEq → qA, reduceAdd → qB, reduceSub → qC, reduceEqDiff → qD, reduceLT → qE, reduceLeDiff → qF
namespace Go.Tel
open Go.Am
def Piece.meets (p : Piece) (a b : Int) : Int × Int := if p.ok && inR a 0 (p.ws.length - 1) && inR b 0 (p.ws.length - 1) then (p.wrong [] a b, 0) else (0, 2)
set_option maxRecDepth 10000 in
theorem Meets_c (p : Piece) (hc : p.cs.length ≤ 1000) (hw : p.ws.length ≤ 1000) (hm : p.ms.length ≤ 1000) (a b : Int) : Pure C F.plate_Meets [p.dv, .int .i64 a, .int .i64 b] (.d (.tup [.int .i64 (p.meets a b).1, .int .i64 (p.meets a b).2])) [] := by
 have h1 := isPiece_c p hc hw hm
 have h2 := isWheel_c p a (by omega)
 have h3 := isWheel_c p b (by omega)
 have hl := lay_c p [] hm (by simp)
 rw [dv_Piece] at h1 h2 h3 hl
 refine pure_of_pwp_d mixed rfl ok_plate_Meets ?_
 simp only [pc_plate_Meets, rs_plate_Meets, dv_Piece, List.not_mem_nil, RN, qA, qB, qC, qD, qE, qF]
 refine call_d rfl rfl h1 ?_
 cases hok : p.ok
 ·simp only [RN, qA, qB, qC, qD, qE, qF]
  rw [Piece.meets, hok]; rfl
 simp only [RN, qA, qB, qC, qD, qE, qF]
 refine call_d rfl rfl h2 ?_
 cases ha : inR a 0 (p.ws.length - 1)
 ·simp only [RN, qA, qB, qC, qD, qE, qF]
  rw [Piece.meets, hok, ha]; rfl
 simp only [RN, qA, qB, qC, qD, qE, qF]
 refine call_d rfl rfl h3 ?_
 cases hb : inR b 0 (p.ws.length - 1)
 ·simp only [RN, qA, qB, qC, qD, qE, qF]
  rw [Piece.meets, hok, ha, hb]; rfl
 have wa : p.isW a := by simp only [inR, Bool.and_eq_true, decide_eq_true_eq] at ha; exact ⟨by omega, by omega⟩
 have wb : p.isW b := by simp only [inR, Bool.and_eq_true, decide_eq_true_eq] at hb; exact ⟨by omega, by omega⟩
 have hwr : Pure C F.plate_laid_wrong [(p.laid []).dv, .int .i64 a, .int .i64 b] (.d (.int .i64 (p.wrong [] a b))) [] := laid_wrong_c (p.laid []) (Piece.ok_good hok) (Piece.laid_fine p []) (by simp [Piece.laid]) a b wa wb
 simp only [RN, qA, qB, qC, qD, qE, qF]
 refine call_d rfl rfl hl ?_
 rw [dv_Laid] at hwr
 simp only [dv_Laid, RN, qA, qB, qC, qD, qE, qF]
 refine call_d rfl rfl hwr ?_
 simp only [RN, qA, qB, qC, qD, qE, qF]
 rw [Piece.meets, hok, ha, hb]; rfl
end Go.Tel
open Nat renaming reduceBEq → qA, reduceAdd → qB, reduceSub → qC, reduceEqDiff → qD, reduceLT → qE, reduceLeDiff → qF
namespace Go.Am
theorem app_any {sz : Nat} {c : PV} {xs : List DV} {x : DV} {bs : List (Option (List PV))} {fz : List Nat} {ar : List (Option Arr)} {K : PV → Mem → Prop} (h : sl sz c xs ar) (hs : 0 < sz) (hx : x.fits sz = true) (hl : xs.length + 1 ≤ 1073741824)
  (hK : ∀ k ver ar', ar'[k]? = some (some ⟨sz, xs ++ [x], ver, 0⟩) → (∀ j A, ar[j]? = some (some A) → kOf c ≠ some j → ar'[j]? = some (some A) ∧ j ≠ k) → K (.tsl k ver 0) ⟨bs, fz, ar'⟩) : runApp sz false c (.d (.slice true [x])) ⟨bs, fz, ar⟩ K := by
 rcases h with ⟨rfl, rfl⟩ | ⟨k, ver, rfl, hk⟩
 ·simp only [runApp, appd]
  refine ⟨hs, by simpa using hx, by simp, trivial, by simp, by simpa using hl, ?_⟩
  refine hK _ _ _ (by simp) fun j A hj _ => ?_
  have hlt : j < ar.length := (List.getElem?_eq_some_iff.1 hj).1
  exact ⟨by rw [List.getElem?_append_left hlt]; exact hj, by omega⟩
 ·simp only [runApp, appd, row_m, hk, if_true]
  refine ⟨hs, by simpa using hx, by simp, trivial, by decide, by simpa using hl, ?_⟩
  have hlt : k < ar.length := (List.getElem?_eq_some_iff.1 hk).1
  refine hK _ _ _ (by simp [hlt]) fun j A hj hne => ?_
  have hkj : k ≠ j := fun e => hne (by rw [e]; rfl)
  exact ⟨by rw [List.getElem?_set_ne hkj]; exact hj, fun e => hkj e.symm⟩
theorem len_rel {sz : Nat} {c : PV} {xs : List DV} {bs : List (Option (List PV))} {fz : List Nat} {ar : List (Option Arr)} {K : Int → Prop} (h : sl sz c xs ar) : runLen c ⟨bs, fz, ar⟩ K = K xs.length := by
 rcases h with ⟨rfl, rfl⟩ | ⟨k, ver, rfl, hk⟩
 ·rfl
 ·simp [runLen, row_m, hk]
theorem one_sl {sz : Nat} {c : PV} {xs : List DV} {ar : List (Option Arr)} (h : sl sz c xs ar) : PV.one c = true ∧ PV.cells c = [c] ∧ c.isDead = false := by
 rcases h with ⟨rfl, rfl⟩ | ⟨k, ver, rfl, hk⟩ <;> exact ⟨rfl, rfl, rfl⟩
theorem sl_keep {sz : Nat} {c : PV} {xs : List DV} {ar ar' : List (Option Arr)} (h : sl sz c xs ar) (hk : ∀ k A, kOf c = some k → ar[k]? = some (some A) → ar'[k]? = some (some A)) : sl sz c xs ar' := by
 rcases h with ⟨rfl, rfl⟩ | ⟨k, ver, rfl, hh⟩
 ·exact .inl ⟨rfl, rfl⟩
 ·exact .inr ⟨k, ver, rfl, hk _ _ rfl hh⟩
theorem upto_sl {sz n : Nat} {c : PV} {xs : List DV} {ar : List (Option Arr)} (h : sl sz c xs ar) : c.upto n ar.length = true := by
 rcases h with ⟨rfl, rfl⟩ | ⟨k, ver, rfl, hk⟩
 ·rfl
 ·simp only [PV.upto, decide_eq_true_eq]; exact (List.getElem?_eq_some_iff.1 hk).1
end Go.Am
namespace Go.Tel
open Go.Am
def left (gone : List Int) (k : Nat) : List Nat := (List.range k).filter fun i => !gone.contains (i : Int)
def numOf (gone : List Int) (k : Nat) : Int := if gone.contains (k : Int) then -1 else ((left gone k).length : Int)
def numsOf (gone : List Int) (n : Nat) : List Int := (List.range n).map (numOf gone)
def Piece.kept (p : Piece) (gone : List Int) (k : Nat) : List Wh := (left gone k).map fun i => p.ws.getD i default
def newM (gone : List Int) (m : Ms) : Option Ms := if decide (numOf gone m.a.toNat ≥ 0) && decide (numOf gone m.b.toNat ≥ 0) then some ⟨numOf gone m.a.toNat, numOf gone m.b.toNat⟩ else none
def Piece.rwithout (p : Piece) (gone : List Int) : Piece := { p with ws := p.kept gone p.ws.length, ms := p.ms.filterMap (newM gone) }
theorem left_succ (gone : List Int) (k : Nat) : left gone (k + 1) = left gone k ++ (if gone.contains (k : Int) then [] else [k]) := by
 rw [left, List.range_succ, List.filter_append, ← left]
 congr 1
 cases h : gone.contains (k : Int) <;> (rw [List.filter_cons, h]; rfl)
theorem left_len (gone : List Int) (k : Nat) : (left gone k).length ≤ k := by
 have := List.length_filter_le (fun i : Nat => !gone.contains (i : Int)) (List.range k)
 rw [List.length_range] at this
 exact this
theorem nums_succ (gone : List Int) (n : Nat) : numsOf gone (n + 1) = numsOf gone n ++ [numOf gone n] := by simp [numsOf, List.range_succ]
theorem nums_len (gone : List Int) (n : Nat) : (numsOf gone n).length = n := by simp [numsOf]
structure WoS where
 ver : Nat
 c : PV
 ar : List (Option Arr)
def Piece.wo (p : Piece) (c6 c7 : PV) : List (Option (List PV)) :=
 [some (p.cells.map .d), some [.d (.int .i64 0), .d (.int .i64 0), .d (.int .i64 0), .d (.int .i64 0), .d (.int .i64 0), .d (.slice true []), .d (.slice true []), .d (.slice true [])],
  some [.d (.int .i64 p.w), .d (.int .i64 p.h), .d (.int .i64 p.pl), .d (.int .i64 p.ga), .d (.int .i64 p.po), .d (.slice false (p.cs.map Pt.dv)), c6, c7]]
set_option maxRecDepth 10000 in
set_option maxHeartbeats 2000000 in
theorem rWithout_c (p : Piece) (gone : List Int) (hg : gone.length ≤ 1000) (hw : p.ws.length ≤ 1000) (hm : p.ms.length ≤ 1000) (hms : ∀ m ∈ p.ms, (0 ≤ m.a ∧ m.a.toNat < p.ws.length) ∧ 0 ≤ m.b ∧ m.b.toNat < p.ws.length) :
  Pure C F.ref_Without [p.dv, .slice false (gone.map intDV)] (.d (p.rwithout gone).dv) [] := by
 refine pure_of_pwp_fs mixed rfl ok_ref_Without ?_
 simp only [pc_ref_Without, rs_ref_Without, dv_Piece, List.not_mem_nil, RN, qA, qB, qC, qD, qE, qF]
 refine pwp_range p.ws.length (fun i (q : WoS) => ⟨[(1, .d (.slice false (gone.map intDV))), (2, .d (.cptr p.cells)), (4, .ptr 1 0), (5, .ptr 2 0), (6, .tsl 0 q.ver 0), (7, .d (.int .i64 i))], ⟨p.wo q.c (.d (.slice true [])), [0], q.ar⟩⟩)
  (fun i q => q.ar[0]? = some (some ⟨1, (numsOf gone i).map intDV, q.ver, min i 1⟩) ∧ sl 4 q.c ((p.kept gone i).map Wh.dv) q.ar ∧ kOf q.c ≠ some 0) 0 ⟨0, .d (.slice true []), [some ⟨1, [], 0, 0⟩]⟩ (Nat.zero_le _) rfl ⟨rfl, .inl ⟨rfl, rfl⟩, by simp [kOf]⟩ (fun i q g1 hix => ?_) (fun q hix => ?_)
 ·obtain ⟨ver, c, ar⟩ := q
  obtain ⟨r1, r2, r3⟩ := hix
  simp only at r1 r2 r3
  obtain ⟨g2, g3, g6⟩ := rng g1 (by omega)
  obtain ⟨o1, o2, o3⟩ := one_sl r2
  have hkl : (p.kept gone i).length = (left gone i).length := by simp [Piece.kept]
  have hll := left_len gone i
  simp only [Piece.cells, Piece.wo, g2, List.length_map, len_rel r2, hkl, ev_mkSl1, fits_int, forall_eq, DV.strip, dcells_int, r1, RN, qA, qB, qC, qD, qE, qF]
  refine ⟨by simp, by omega, by rw [nums_len]; omega, ?_⟩
  refine call_d rfl rfl (rListed_c gone i (by omega)) ?_
  have hr0 : 0 < ar.length := (List.getElem?_eq_some_iff.1 r1).1
  have hset : ∀ A : Arr, (ar.set 0 (some A))[0]? = some (some A) := fun A => by simp [hr0]
  have hoth : ∀ (A : Option Arr) (k : Nat), k ≠ 0 → (ar.set 0 A)[k]? = ar[k]? := fun A k hk => by rw [List.getElem?_set_ne (by omega)]
  have ekept : ∀ b : Bool, gone.contains (i : Int) = b → p.kept gone (i + 1) = p.kept gone i ++ (if b then [] else [p.ws.getD i default]) := fun b hb => by
   rw [Piece.kept, left_succ, List.map_append, hb, ← Piece.kept]; cases b <;> rfl
  cases hc : gone.contains (i : Int)
  ·have en : numsOf gone (i + 1) = numsOf gone i ++ [((left gone i).length : Int)] := by rw [nums_succ, numOf, hc]; rfl
   have hwi : (Wh.dv (p.ws.getD i default)).fits 4 = true := rfl
   have hrel : sl 4 c ((p.kept gone i).map Wh.dv) (ar.set 0 (some ⟨1, (numsOf gone i).map intDV ++ [.int .i64 (left gone i).length], ver + 1, 1⟩)) :=
    sl_keep r2 fun k A hk hA => by rw [hoth _ k (fun e => r3 (e ▸ hk))]; exact hA
   simp only [g2, g3, g1, getD_map, Int.toNat_natCast, List.length_map, dv_Wh, ev_mkSl1, DV.strip, dcells_agg, RN, qA, qB, qC, qD, qE, qF]
   rw [dv_Wh] at hwi
   refine app_any hrel (by decide) hwi (by rw [List.length_map]; omega) (fun k v ar' h1 h2 => ?_)
   obtain ⟨h3, h4⟩ := h2 0 _ (hset _) r3
   simp only [cells_t, one_t, g6, RN, qA, qB, qC, qD, qE, qF]
   refine up_refl ⟨ver + 1, .tsl k v 0, ar'⟩ g1 rfl ⟨?_, .inr ⟨k, v, rfl, ?_⟩, ?_⟩
   ·rw [h3, en, List.map_append, show min (i + 1) 1 = 1 by omega]; rfl
   ·rw [h1, ekept false hc, List.map_append]; rfl
   ·simp only [kOf, ne_eq, Option.some.injEq]; omega
  ·have en : numsOf gone (i + 1) = numsOf gone i ++ [-1] := by rw [nums_succ, numOf, hc]; rfl
   have e1 : (numsOf gone i).map intDV ++ [DV.int .i64 ((left gone i).length : Int)] = (numsOf gone i ++ [((left gone i).length : Int)]).map intDV := by rw [List.map_append]; rfl
   have hil : i < (numsOf gone i ++ [((left gone i).length : Int)]).length := by rw [List.length_append, nums_len]; simp
   rw [e1]
   simp only [g3, hset, hil, Int.toNat_natCast, List.length_map, RN, qA, qB, qC, qD, qE, qF]
   refine store_ei (hset _) hil ?_
   simp only [g6, RN, qA, qB, qC, qD, qE, qF]
   refine up_refl ⟨ver + 1, c, _⟩ g1 rfl ⟨?_, ?_, r3⟩
   ·simp only [List.set_set]
    rw [hset, en, show min (i + 1) 1 = 1 by omega]
    have e2 : (numsOf gone i ++ [((left gone i).length : Int)]).set i (-1) = numsOf gone i ++ [-1] := by
     rw [List.set_append_right _ _ (by rw [nums_len]; exact Nat.le_refl _), nums_len, Nat.sub_self]; rfl
    rw [e2]
   ·simp only [List.set_set]
    rw [ekept true hc, if_pos rfl, List.append_nil]
    exact sl_keep r2 fun k A hk hA => by rw [hoth _ k (fun e => r3 (e ▸ hk))]; exact hA
 ·obtain ⟨ver, c, ar⟩ := q
  obtain ⟨r1, r2, r3⟩ := hix
  simp only at r1 r2 r3
  obtain ⟨o1, o2, o3⟩ := one_sl r2
  have hr0 : 0 < ar.length := (List.getElem?_eq_some_iff.1 r1).1
  simp only [Piece.cells, Piece.wo, Int.lt_irrefl, List.length_map, RN, qA, qB, qC, qD, qE, qF]
  refine pwp_range p.ms.length (fun i (q : WoS) => ⟨[(2, .d (.cptr p.cells)), (4, .ptr 1 0), (5, .ptr 2 0), (6, .tsl 0 ver 0), (8, .d (.int .i64 i))], ⟨p.wo c q.c, [0], q.ar⟩⟩)
   (fun i q => q.ar[0]? = some (some ⟨1, (numsOf gone p.ws.length).map intDV, ver, min p.ws.length 1⟩) ∧ sl 4 c ((p.kept gone p.ws.length).map Wh.dv) q.ar ∧ sl 2 q.c (((p.ms.take i).filterMap (newM gone)).map Ms.dv) q.ar ∧ kOf q.c ≠ some 0 ∧ dist q.c c) 0 ⟨0, .d (.slice true []), ar⟩ (Nat.zero_le _) rfl ⟨r1, r2, .inl ⟨rfl, rfl⟩, by simp [kOf], fun k h => by cases h⟩ (fun i q g1 hix => ?_) (fun q hix => ?_)
  ·obtain ⟨_, c7, ar7⟩ := q
   obtain ⟨q1, q2, q3, q4, q5⟩ := hix
   simp only at q1 q2 q3 q4 q5
   obtain ⟨g2, g3, g6⟩ := rng g1 (by omega)
   obtain ⟨o4, o5, o6⟩ := one_sl q3
   have hmm := hms _ (getD_mem g1)
   have ht : p.ms.take (i + 1) = p.ms.take i ++ [p.ms.getD i default] := by rw [take_snoc g1]
   obtain ⟨⟨m1, m2⟩, m3, m4⟩ := hmm
   have nl := nums_len gone p.ws.length
   have ng : ∀ k, k < p.ws.length → (numsOf gone p.ws.length).getD k default = numOf gone k := fun k hk => by
    rw [numsOf, List.getD_eq_getElem?_getD, List.getElem?_map, List.getElem?_range hk]; rfl
   simp only [Piece.cells, Piece.wo, g2, g3, g1, getD_map, Int.toNat_natCast, List.length_map, dv_Ms, List.not_mem_nil, m1, m2, m3, m4, nl, q1, dv_int, ng, RN, qA, qB, qC, qD, qE, qF]
   have hxs : ((p.ms.take i).filterMap (newM gone)).length ≤ 1000 := by
    have h1 := List.length_filterMap_le (newM gone) (p.ms.take i)
    have h2 := List.length_take_le i p.ms
    omega
   generalize p.ms.getD i default = m at *
   have hnew : ∀ b : Bool, (decide (numOf gone m.a.toNat ≥ 0) && decide (numOf gone m.b.toNat ≥ 0)) = b → (p.ms.take (i + 1)).filterMap (newM gone) = (p.ms.take i).filterMap (newM gone) ++ (if b then [⟨numOf gone m.a.toNat, numOf gone m.b.toNat⟩] else []) := fun b hb => by
    rw [ht, List.filterMap_append]
    congr 1
    rw [List.filterMap_cons, newM, hb]; cases b <;> rfl
   have u6 := upto_sl (n := 3) q2
   have u7 := upto_sl (n := 3) q3
   have a0 : 0 < ar7.length := (List.getElem?_eq_some_iff.1 q1).1
   have skip : (decide (numOf gone m.a.toNat ≥ 0) && decide (numOf gone m.b.toNat ≥ 0)) = false → sl 2 c7 (((p.ms.take (i + 1)).filterMap (newM gone)).map Ms.dv) ar7 := fun hb => by
    rw [hnew false hb]; simpa using q3
   by_cases hA : numOf gone m.a.toNat ≥ 0
   case neg =>
    have hb : (decide (numOf gone m.a.toNat ≥ 0) && decide (numOf gone m.b.toNat ≥ 0)) = false := by rw [decide_eq_false hA, Bool.false_and]
    simp only [hA, g6, List.not_mem_nil, RN, qA, qB, qC, qD, qE, qF]
    exact up_take 3 ar7.length ⟨0, c7, ar7⟩ g1 (by simp [Piece.wo, Piece.cells]) ⟨q1, q2, skip hb, q4, q5⟩ (by simp) (by simp) (by simp [PV.upto, a0]) (by simp [PV.upto, u6, u7])
   by_cases hB : numOf gone m.b.toNat ≥ 0
   case neg =>
    have hb : (decide (numOf gone m.a.toNat ≥ 0) && decide (numOf gone m.b.toNat ≥ 0)) = false := by rw [decide_eq_false hB, Bool.and_false]
    simp only [hA, hB, g6, List.not_mem_nil, RN, qA, qB, qC, qD, qE, qF]
    exact up_take 3 ar7.length ⟨0, c7, ar7⟩ g1 (by simp [Piece.wo, Piece.cells]) ⟨q1, q2, skip hb, q4, q5⟩ (by simp) (by simp) (by simp [PV.upto, a0]) (by simp [PV.upto, u6, u7])
   have hb : (decide (numOf gone m.a.toNat ≥ 0) && decide (numOf gone m.b.toNat ≥ 0)) = true := by rw [decide_eq_true hA, decide_eq_true hB]; rfl
   simp only [hA, hB, List.not_mem_nil, ev_mkSl1, DV.strip, dcells_agg, RN, qA, qB, qC, qD, qE, qF]
   refine app_any q3 (by decide) rfl (by rw [List.length_map]; omega) (fun k v ar' h1 h2 => ?_)
   obtain ⟨h3, h4⟩ := h2 0 _ q1 q4
   have q2' : sl 4 c ((p.kept gone p.ws.length).map Wh.dv) ar' := sl_keep q2 fun k A hk hA => (h2 k A hA fun e => q5 k e hk).1
   have hd : dist (.tsl k v 0) c := by
    intro k' e1 e2
    simp only [kOf, Option.some.injEq] at e1
    subst e1
    rcases q2 with ⟨rfl, _⟩ | ⟨k2, v2, rfl, hk2⟩
    ·cases e2
    ·cases e2
     exact (h2 _ _ hk2 fun e => q5 _ e rfl).2 rfl
   have q3' : sl 2 (.tsl k v 0) (((p.ms.take (i + 1)).filterMap (newM gone)).map Ms.dv) ar' := .inr ⟨k, v, rfl, by rw [h1, hnew true hb, List.map_append]; rfl⟩
   have u6' := upto_sl (n := 3) q2'
   have u7' := upto_sl (n := 3) q3'
   have a0' : 0 < ar'.length := (List.getElem?_eq_some_iff.1 h3).1
   have kl := (List.getElem?_eq_some_iff.1 h1).1
   simp only [cells_t, one_t, g6, List.not_mem_nil, RN, qA, qB, qC, qD, qE, qF]
   refine up_take 3 ar'.length ⟨0, .tsl k v 0, ar'⟩ g1 (by simp [Piece.wo, Piece.cells]) ⟨h3, q2', q3', ?_, hd⟩ (by simp) (by simp) (by simp [PV.upto, a0']) (by simp [PV.upto, u6', kl])
   simp only [kOf, ne_eq, Option.some.injEq]; omega
  ·obtain ⟨_, c7, ar7⟩ := q
   obtain ⟨q1, q2, q3, q4, q5⟩ := hix
   simp only at q1 q2 q3 q4 q5
   rw [List.take_length] at q3
   simp only [Piece.rwithout]
   simp only [Piece.cells, Piece.wo, Int.lt_irrefl, List.length_map, List.not_mem_nil, RN, qA, qB, qC, qD, qE, qF]
   generalize (p.kept gone p.ws.length).map Wh.dv = xs6 at *
   generalize (p.ms.filterMap (newM gone)).map Ms.dv = xs7 at *
   rcases q2 with ⟨rfl, rfl⟩ | ⟨k, v, rfl, hk⟩ <;> rcases q3 with ⟨rfl, rfl⟩ | ⟨k', v', rfl, hk'⟩
   ·simp only [List.not_mem_nil, RN, qA, qB, qC, qD, qE, qF]
    simp [datum, DV.strip]
   ·simp only [allD_t, Option.map_none, aggO_none, cells_agg, isDead_agg, one_t, cells_t, List.not_mem_nil, RN, qA, qB, qC, qD, qE, qF]
    simp [datum, datum0L, datum0, row_m, hk', DV.strip]
   ·simp only [allD_t, Option.map_none, aggO_none, cells_agg, isDead_agg, one_t, cells_t, List.not_mem_nil, RN, qA, qB, qC, qD, qE, qF]
    simp [datum, datum0L, datum0, row_m, hk, DV.strip]
   ·simp only [allD_t, Option.map_none, aggO_none, cells_agg, isDead_agg, one_t, cells_t, List.not_mem_nil, RN, qA, qB, qC, qD, qE, qF]
    simp [datum, datum0L, datum0, row_m, hk, hk', DV.strip]
end Go.Tel
namespace Go.Tel
open Go.Am
theorem left_get {gone : List Int} {k : Nat} (hk : gone.contains (k : Int) = false) : ∀ {n : Nat}, k < n → (left gone n)[(left gone k).length]? = some k
 | 0, h => by omega
 | n + 1, h => by
  rw [left_succ]
  by_cases e : k = n
  ·subst e
   rw [hk, List.getElem?_append_right (Nat.le_refl _), Nat.sub_self]; rfl
  ·have ih := left_get hk (n := n) (by omega)
   rw [List.getElem?_append_left (List.getElem?_eq_some_iff.1 ih).1]
   exact ih
theorem left_inv {gone : List Int} {i k : Nat} : ∀ {n : Nat}, (left gone n)[i]? = some k → k < n ∧ gone.contains (k : Int) = false ∧ (left gone k).length = i
 | 0, h => by simp [left] at h
 | n + 1, h => by
  rw [left_succ] at h
  by_cases hi : i < (left gone n).length
  ·rw [List.getElem?_append_left hi] at h
   obtain ⟨h1, h2⟩ := left_inv h
   exact ⟨by omega, h2⟩
  ·rw [List.getElem?_append_right (by omega)] at h
   cases hc : gone.contains (n : Int)
   ·rw [hc] at h
    have h' : ([n] : List Nat)[i - (left gone n).length]? = some k := h
    have hz : i - (left gone n).length = 0 := by
     have := (List.getElem?_eq_some_iff.1 h').1
     simp only [List.length_cons, List.length_nil] at this; omega
    rw [hz] at h'
    simp only [List.getElem?_cons_zero, Option.some.injEq] at h'
    subst h'
    exact ⟨by omega, hc, by omega⟩
   ·rw [hc] at h
    simp at h
theorem pos_le {gone : List Int} {a : Nat} : ∀ {b : Nat}, a ≤ b → (left gone a).length ≤ (left gone b).length
 | 0, h => by rw [show a = 0 by omega]; exact Nat.le_refl _
 | b + 1, h => by
  by_cases e : a = b + 1
  ·rw [e]; exact Nat.le_refl _
  ·rw [left_succ, List.length_append]
   have := pos_le (gone := gone) (a := a) (b := b) (by omega)
   omega
theorem pos_lt {gone : List Int} {a b : Nat} (hk : gone.contains (a : Int) = false) (h : a < b) : (left gone a).length < (left gone b).length := by
 have h1 := pos_le (gone := gone) (a := a + 1) (b := b) h
 rw [left_succ, hk, List.length_append] at h1
 simp only [Bool.false_eq_true, if_false, List.length_cons, List.length_nil] at h1
 omega
theorem pos_inj {gone : List Int} {a b : Nat} (ha : gone.contains (a : Int) = false) (hb : gone.contains (b : Int) = false) (h : (left gone a).length = (left gone b).length) : a = b := by
 rcases Nat.lt_trichotomy a b with h1 | h1 | h1
 ·have := pos_lt ha h1; omega
 ·exact h1
 ·have := pos_lt hb h1; omega
theorem kept_mem {p : Piece} {gone : List Int} {k : Nat} (hk : k ≤ p.ws.length) : ∀ w ∈ p.kept gone k, w ∈ p.ws := by
 intro w hw
 obtain ⟨i, hi, rfl⟩ := List.mem_map.1 hw
 have := List.mem_range.1 (List.mem_filter.1 hi).1
 exact getD_mem (by omega)
section
variable {p : Piece} {gone : List Int}
theorem q_wh {a : Nat} (ha : gone.contains (a : Int) = false) (hn : a < p.ws.length) : (p.rwithout gone).wh ((left gone a).length : Nat) = p.wh a := by
 simp only [Piece.wh, Piece.rwithout, Piece.kept, Int.toNat_natCast]
 rw [List.getD_eq_getElem?_getD, List.getElem?_map, left_get ha hn]
 rfl
theorem q_pt {a : Nat} (ha : gone.contains (a : Int) = false) (hn : a < p.ws.length) : (p.rwithout gone).pt ((left gone a).length : Nat) = p.pt a := by
 rw [Piece.pt, Piece.pt, q_wh ha hn]; rfl
theorem q_one (hms : ∀ m ∈ p.ms, 0 ≤ m.a ∧ m.a < m.b ∧ m.b ≤ p.ws.length - 1) {a b : Nat} (ha : gone.contains (a : Int) = false) (hb : gone.contains (b : Int) = false) :
  (∃ m ∈ (p.rwithout gone).ms, m.a = ((left gone a).length : Int) ∧ m.b = ((left gone b).length : Int)) ↔ ∃ m ∈ p.ms, m.a = (a : Int) ∧ m.b = (b : Int) := by
 have hnum : ∀ k : Nat, numOf gone k ≥ 0 → gone.contains (k : Int) = false ∧ numOf gone k = ((left gone k).length : Int) := by
  intro k hk
  rw [numOf] at hk ⊢
  cases hc : gone.contains (k : Int)
  ·exact ⟨rfl, by rw [if_neg (by decide)]⟩
  ·rw [hc, if_pos rfl] at hk; omega
 constructor
 ·rintro ⟨m', hm', e1, e2⟩
  obtain ⟨m, hm, hnew⟩ := List.mem_filterMap.1 (show m' ∈ p.ms.filterMap (newM gone) from hm')
  obtain ⟨h1, h2, h3⟩ := hms m hm
  rw [newM] at hnew
  split at hnew
  ·rename_i hc
   rw [Bool.and_eq_true, decide_eq_true_eq, decide_eq_true_eq] at hc
   cases hnew
   obtain ⟨x1, x2⟩ := hnum _ hc.1
   obtain ⟨y1, y2⟩ := hnum _ hc.2
   simp only at e1 e2
   rw [x2] at e1
   rw [y2] at e2
   have i1 := pos_inj x1 ha (by omega)
   have i2 := pos_inj y1 hb (by omega)
   exact ⟨m, hm, by omega, by omega⟩
  ·cases hnew
 ·rintro ⟨m, hm, e1, e2⟩
  have na : numOf gone a = ((left gone a).length : Int) := by rw [numOf, ha, if_neg (by decide)]
  have nb : numOf gone b = ((left gone b).length : Int) := by rw [numOf, hb, if_neg (by decide)]
  refine ⟨⟨(left gone a).length, (left gone b).length⟩, List.mem_filterMap.2 ⟨m, hm, ?_⟩, rfl, rfl⟩
  rw [newM, e1, e2, Int.toNat_natCast, Int.toNat_natCast, na, nb, if_pos]
  rw [Bool.and_eq_true, decide_eq_true_eq, decide_eq_true_eq]; omega
theorem q_meshed (hms : ∀ m ∈ p.ms, 0 ≤ m.a ∧ m.a < m.b ∧ m.b ≤ p.ws.length - 1) {a b : Nat} (ha : gone.contains (a : Int) = false) (hb : gone.contains (b : Int) = false) :
  (p.rwithout gone).rmeshed ((left gone a).length : Nat) ((left gone b).length : Nat) = p.rmeshed a b := by
 have e : ∀ (q : Piece) (x y : Int), q.rmeshed x y = true ↔ (∃ m ∈ q.ms, m.a = x ∧ m.b = y) ∨ ∃ m ∈ q.ms, m.a = y ∧ m.b = x := by
  intro q x y
  rw [Piece.rmeshed, List.any_eq_true]
  simp only [Bool.or_eq_true, Bool.and_eq_true, beq_iff_eq]
  constructor
  ·rintro ⟨m, hm, h | h⟩
   ·exact .inl ⟨m, hm, h⟩
   ·exact .inr ⟨m, hm, h⟩
  ·rintro (⟨m, hm, h⟩ | ⟨m, hm, h⟩)
   ·exact ⟨m, hm, .inl h⟩
   ·exact ⟨m, hm, .inr h⟩
 rw [Bool.eq_iff_iff, e, e, q_one hms ha hb, q_one hms hb ha]
theorem bounds_gone (o : Int) : ∀ (ws : List Wh) (i : Nat) (r : Int × Int), p.ws.drop i = ws → p.bounds gone o i ws r = rfold (p.wh o) ((((List.range p.ws.length).drop i).filter fun (k : Nat) => !gone.contains (k : Int)).map fun (k : Nat) => p.ws.getD k default) r
 | [], i, r, h => by
  have hi : p.ws.length ≤ i := by
   have := congrArg List.length h
   rw [List.length_drop, List.length_nil] at this; omega
  rw [List.drop_eq_nil_of_le (by simpa using hi)]; rfl
 | w :: ws, i, r, h => by
  have hi : i < p.ws.length := by
   refine Nat.lt_of_not_le fun hh => ?_
   rw [List.drop_of_length_le hh] at h
   cases h
  have h2 := drop_cons hi
  rw [h] at h2
  obtain ⟨hw, ht⟩ := List.cons.inj h2
  have hwi : p.wh (i : Int) = w := by rw [Piece.wh, Int.toNat_natCast, ← hw]
  rw [Piece.bounds, bounds_gone o ws (i + 1) _ ht.symm, drop_cons (l := List.range p.ws.length) (i := i) (by simpa using hi), range_getD hi, List.filter_cons]
  cases hc : gone.contains (i : Int)
  ·rw [Bool.not_false, if_pos rfl, List.map_cons, rfold, ← hw]
   congr 1
   simp only [Piece.sleeved, Piece.centred, hwi, Bool.and_true]
  ·rw [Bool.not_true, Bool.and_false]
   rfl
theorem nested_gone (a b : Int) (hc : p.centred a b = true) (hl : p.level a b = false) : p.nested gone a b =
  ((decide ((p.wh a).sleeve < (p.wh b).sleeve) && decide ((p.wh a).layer > (p.bounds gone b 0 p.ws ((p.wh b).layer, (p.wh b).layer)).1) && decide ((p.wh a).layer < (p.bounds gone b 0 p.ws ((p.wh b).layer, (p.wh b).layer)).2)) ||
  (decide ((p.wh b).sleeve < (p.wh a).sleeve) && decide ((p.wh b).layer > (p.bounds gone a 0 p.ws ((p.wh a).layer, (p.wh a).layer)).1) && decide ((p.wh b).layer < (p.bounds gone a 0 p.ws ((p.wh a).layer, (p.wh a).layer)).2))) := by
 rw [Piece.nested]
 rcases Int.lt_trichotomy (p.wh a).sleeve (p.wh b).sleeve with h | h | h
 ·have hs : p.sleeved a b = false := by rw [Piece.sleeved, hc, Bool.true_and, beq_eq_false_iff_ne]; omega
  have h1 : ¬ (p.wh a).sleeve > (p.wh b).sleeve := by omega
  rw [hc, hs, hl, if_neg (by decide)]
  simp only [if_neg h1]
  rw [Bool.eq_iff_iff]
  simp only [inR, Bool.or_eq_true, Bool.and_eq_true, decide_eq_true_eq]
  omega
 ·have hs : p.sleeved a b = true := by rw [Piece.sleeved, hc, Bool.true_and, beq_iff_eq]; exact h
  rw [hs]
  have h1 : ¬ (p.wh a).sleeve < (p.wh b).sleeve := by omega
  have h2 : ¬ (p.wh b).sleeve < (p.wh a).sleeve := by omega
  simp [h1, h2]
 ·have hs : p.sleeved a b = false := by rw [Piece.sleeved, hc, Bool.true_and, beq_eq_false_iff_ne]; omega
  rw [hc, hs, hl, if_neg (by decide)]
  simp only [if_pos h]
  rw [Bool.eq_iff_iff]
  simp only [inR, Bool.or_eq_true, Bool.and_eq_true, decide_eq_true_eq]
  omega
theorem wrong_gone (hms : ∀ m ∈ p.ms, 0 ≤ m.a ∧ m.a < m.b ∧ m.b ≤ p.ws.length - 1) {a b : Nat} (ha : gone.contains (a : Int) = false) (hb : gone.contains (b : Int) = false) (hna : a < p.ws.length) (hnb : b < p.ws.length) :
  p.wrong gone a b = (p.rwithout gone).rmeets ((left gone a).length : Nat) ((left gone b).length : Nat) := by
 have wa := q_wh ha hna
 have wb := q_wh hb hnb
 have pa := q_pt ha hna
 have pb := q_pt hb hnb
 have hm := q_meshed hms ha hb
 have hmesh : p.mesh a b = p.rmeshed a b := mesh_same (fun m h => (hms m h).2.1) a b
 rw [Piece.wrong, Piece.rmeets]
 by_cases hab : a = b
 ·subst hab
  rw [if_pos rfl, if_pos rfl, Piece.edged, Piece.edged, wa, pa]; rfl
 have hne : ¬ (((left gone a).length : Nat) : Int) = ((left gone b).length : Nat) := fun h => hab (pos_inj ha hb (by omega))
 rw [if_neg (by omega), if_neg hne]
 have hlv : (p.rwithout gone).level ((left gone a).length : Nat) ((left gone b).length : Nat) = p.level a b := by rw [Piece.level, Piece.level, wa, wb]
 have hce : (p.rwithout gone).centred ((left gone a).length : Nat) ((left gone b).length : Nat) = p.centred a b := by rw [Piece.centred, Piece.centred, wa, wb]
 have hfa : (p.rwithout gone).far ((left gone a).length : Nat) ((left gone b).length : Nat) = p.far a b := by rw [Piece.far, Piece.far, pa, pb]
 have hsu : (p.rwithout gone).sum ((left gone a).length : Nat) ((left gone b).length : Nat) = p.sum a b := by rw [Piece.sum, Piece.sum, wa, wb]
 have hpl : (p.rwithout gone).pl = p.pl := rfl
 have hga : (p.rwithout gone).ga = p.ga := rfl
 have hpo : (p.rwithout gone).po = p.po := rfl
 have hfold : ∀ (k : Nat) (r : Int × Int), rfold (p.wh k) (p.rwithout gone).ws r = p.bounds gone k 0 p.ws r := fun k r => by
  rw [bounds_gone (k : Int) p.ws 0 r rfl, List.drop_zero]; rfl
 simp only [Piece.rnear, Piece.rwithin, hm, hlv, hce, hfa, hsu, hpl, hga, hpo, wa, wb, hfold]
 have e1 : p.apart a b = (p.rmeshed a b && (!p.level a b || p.centred a b || decide (p.far a b < p.sum a b * p.sum a b) || decide (p.far a b > (p.sum a b + p.pl) * (p.sum a b + p.pl)))) := by
  rw [Piece.apart, hmesh]; rfl
 have e2 : p.touch a b = (!p.rmeshed a b && p.level a b && !p.centred a b && decide (p.far a b < (p.sum a b + p.ga) * (p.sum a b + p.ga))) := by
  rw [Piece.touch, hmesh]; rfl
 rw [e1, e2]
 split
 ·rfl
 split
 ·rfl
 rw [Piece.same]
 split
 ·rfl
 rename_i hcl
 have e6 : p.posted a b = (!p.centred a b && (decide ((p.wh a).layer ≤ (p.wh b).layer) && decide (p.far a b < ((p.wh a).teeth + p.po) * ((p.wh a).teeth + p.po)) || decide ((p.wh b).layer ≤ (p.wh a).layer) && decide (p.far a b < ((p.wh b).teeth + p.po) * ((p.wh b).teeth + p.po)))) := by
  rw [Piece.posted, Piece.post, Piece.post, far_comm p a b]; rfl
 rw [e6]
 cases hc : p.centred a b
 ·have : p.nested gone a b = false := by simp [Piece.nested, hc]
  rw [this]; rfl
 ·have hl : p.level a b = false := by
   cases hl : p.level a b
   ·rfl
   ·rw [hc, hl] at hcl; exact absurd rfl hcl
  rw [nested_gone a b hc hl, Bool.true_and]
end
end Go.Tel
namespace Go.Tel
open Go.Am
theorem mssOk_iff {n : Int} : ∀ {ms pre : List Ms}, mssOk n pre ms = true ↔ (∀ m ∈ ms, 0 ≤ m.a ∧ m.a < m.b ∧ m.b ≤ n - 1) ∧ ms.Pairwise (· ≠ ·) ∧ ∀ m ∈ ms, m ∉ pre
 | [], pre => by simp [mssOk]
 | x :: ms, pre => by
  rw [mssOk, Bool.and_eq_true, Bool.and_eq_true, mssOk_iff]
  simp only [inR, Bool.and_eq_true, decide_eq_true_eq, Bool.not_eq_true', decide_eq_false_iff_not, ge_iff_le]
  constructor
  ·rintro ⟨⟨⟨⟨h1, h2⟩, h3⟩, h4⟩, h5, h6, h7⟩
   have h4' : x ∉ pre := fun hh => by rw [List.contains_iff_mem.2 hh] at h4; cases h4
   refine ⟨fun m hm => ?_, List.pairwise_cons.2 ⟨fun m hm e => ?_, h6⟩, fun m hm hp => ?_⟩
   ·rcases List.mem_cons.1 hm with rfl | hm
    ·omega
    ·exact h5 m hm
   ·exact h7 m hm (by rw [← e]; simp)
   ·rcases List.mem_cons.1 hm with rfl | hm
    ·exact h4' hp
    ·exact h7 m hm (by simp [hp])
  ·rintro ⟨h1, h2, h3⟩
   have hp := List.pairwise_cons.1 h2
   have hx := h1 x List.mem_cons_self
   refine ⟨⟨⟨⟨by omega, by omega⟩, by omega⟩, ?_⟩, fun m hm => h1 m (List.mem_cons_of_mem _ hm), hp.2, fun m hm hh => ?_⟩
   ·rw [← Bool.not_eq_true, List.contains_iff_mem]
    exact h3 x List.mem_cons_self
   ·rcases List.mem_append.1 hh with hh | hh
    ·exact h3 m (List.mem_cons_of_mem _ hm) hh
    ·exact hp.1 m hm (List.mem_singleton.1 hh).symm
theorem newM_some {gone : List Int} {m m' : Ms} (h : newM gone m = some m') : gone.contains ((m.a.toNat : Nat) : Int) = false ∧ gone.contains ((m.b.toNat : Nat) : Int) = false ∧ m' = ⟨((left gone m.a.toNat).length : Nat), ((left gone m.b.toNat).length : Nat)⟩ := by
 have hnum : ∀ k : Nat, numOf gone k ≥ 0 → gone.contains (k : Int) = false ∧ numOf gone k = ((left gone k).length : Int) := by
  intro k hk
  rw [numOf] at hk ⊢
  cases hc : gone.contains (k : Int)
  ·exact ⟨rfl, by rw [if_neg (by decide)]⟩
  ·rw [hc, if_pos rfl] at hk; omega
 rw [newM] at h
 split at h
 ·rename_i hc
  rw [Bool.and_eq_true, decide_eq_true_eq, decide_eq_true_eq] at hc
  cases h
  obtain ⟨x1, x2⟩ := hnum _ hc.1
  obtain ⟨y1, y2⟩ := hnum _ hc.2
  exact ⟨x1, y1, by rw [x2, y2]⟩
 ·cases h
theorem without_ok {p : Piece} (hok : p.ok = true) (gone : List Int) : (p.rwithout gone).ok = true := by
 have hl := Piece.ok_lens hok
 simp only [Piece.ok, Bool.and_eq_true] at hok ⊢
 obtain ⟨⟨⟨⟨h1, h2⟩, h3⟩, h4⟩, h5⟩ := hok
 have hq : (p.rwithout gone).ws.length = (left gone p.ws.length).length := by simp [Piece.rwithout, Piece.kept]
 have hll := left_len gone p.ws.length
 have hml := List.length_filterMap_le (newM gone) p.ms
 obtain ⟨m1, m2, _⟩ := mssOk_iff.1 h4
 refine ⟨⟨⟨⟨h1, ?_⟩, h3⟩, ?_⟩, ?_⟩
 ·have e : (p.rwithout gone).ms.length ≤ 10 := by show (p.ms.filterMap (newM gone)).length ≤ 10; omega
  have e2 : (p.rwithout gone).cs = p.cs := rfl
  simp only [Piece.lensOk, inR, Bool.and_eq_true, decide_eq_true_eq, Bool.not_eq_true', decide_eq_false_iff_not, e2, hq]
  omega
 ·refine mssOk_iff.2 ⟨fun m' hm' => ?_, ?_, fun m _ h => by cases h⟩
  ·obtain ⟨m, hm, hn⟩ := List.mem_filterMap.1 (show m' ∈ p.ms.filterMap (newM gone) from hm')
   obtain ⟨a1, a2, rfl⟩ := newM_some hn
   have hb := m1 m hm
   have i1 := pos_lt a1 (show m.a.toNat < m.b.toNat by omega)
   have i2 := (List.getElem?_eq_some_iff.1 (left_get a2 (show m.b.toNat < p.ws.length by omega))).1
   rw [hq]
   simp only
   omega
  ·show (p.ms.filterMap (newM gone)).Pairwise (· ≠ ·)
   rw [List.pairwise_filterMap]
   refine List.Pairwise.imp_of_mem ?_ m2
   intro x y hx hy hne b hb b' hb' e
   obtain ⟨a1, a2, rfl⟩ := newM_some hb
   obtain ⟨b1, b2, e2⟩ := newM_some hb'
   rw [← e] at e2
   simp only [Ms.mk.injEq] at e2
   have j1 := pos_inj a1 b1 (by omega)
   have j2 := pos_inj a2 b2 (by omega)
   have := m1 x hx
   have := m1 y hy
   apply hne
   cases x; cases y
   simp only [Ms.mk.injEq] at *
   omega
 ·rw [List.all_eq_true] at h5 ⊢
  intro w hw
  exact h5 w (kept_mem (Nat.le_refl _) w hw)
end Go.Tel
