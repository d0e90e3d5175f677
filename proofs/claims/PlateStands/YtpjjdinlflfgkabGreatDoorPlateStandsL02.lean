/-
  Part 2 of the proof of a law of plates, the law itself: an abstract machine over the model, contracts of functions, plain laws.
  Conditions: none.
-/
import Derived.Test.YtpjjdinlflfgkabGreatDoorPlateStandsL01
set_option linter.all false
namespace Go.Tel
end Go.Tel
open Nat renaming reduceBEq → qA, reduceAdd → qB, reduceSub → qC, reduceEqDiff → qD, reduceLT → qE, reduceLeDiff → qF
namespace Go.Tel
open Go.Am
theorem cellsEq_pt (x y : Pt) : cellsEq [1, 1] [.int .i64 x.x, .int .i64 x.y] [.int .i64 y.x, .int .i64 y.y] = some (decide (x = y)) := by
 obtain ⟨a, b⟩ := x
 obtain ⟨c, d⟩ := y
 by_cases h1 : a = c <;> by_cases h2 : b = d <;> simp [cellsEq, h1, h2]
theorem cellsEq_ms (x y : Ms) : cellsEq [1, 1] [.int .i64 x.a, .int .i64 x.b] [.int .i64 y.a, .int .i64 y.b] = some (decide (x = y)) := by
 obtain ⟨a, b⟩ := x
 obtain ⟨c, d⟩ := y
 by_cases h1 : a = c <;> by_cases h2 : b = d <;> simp [cellsEq, h1, h2]
set_option maxRecDepth 10000 in
set_option maxHeartbeats 4000000 in
theorem rPiece_c (p : Piece) (hc : p.cs.length ≤ 1000) (hw : p.ws.length ≤ 1000) (hm : p.ms.length ≤ 1000) : Pure C F.ref_Piece [p.dv] (.d (.bool p.ok)) [] := by
 refine pure_of_pwp_d mixed rfl ok_ref_Piece ?_
 simp only [pc_ref_Piece, rs_ref_Piece, dv_Piece, RN, qA, qB, qC, qD, qE, qF]
 by_cases hh : p.headOk = true
 case neg =>
  have hok : p.ok = false := by simp [Piece.ok, hh]
  rw [hok]
  repeat' first
   | (refine call_d rfl rfl (rin_c _ _ _) ?_; try simp only [RN, qA, qB, qC, qD, qE, qF])
   | (refine guard_split (by rfl) (fun hB => ?_) (fun hB => ?_) <;> simp only [hB, RN, qA, qB, qC, qD, qE, qF])
   | (refine cond_split (by rfl) (fun hB => ?_) (fun hB => ?_) <;> simp only [hB, RN, qA, qB, qC, qD, qE, qF])
  all_goals (first | rfl | (exfalso; simp_all [Piece.headOk]; done))
 have hh' := hh
 simp only [Piece.headOk, Bool.and_eq_true] at hh'
 obtain ⟨⟨⟨⟨a1, a2⟩, a3⟩, a4⟩, a5⟩ := hh'
 refine call_d rfl rfl (rin_c _ _ _) ?_
 simp only [a1, RN, qA, qB, qC, qD, qE, qF]
 refine call_d rfl rfl (rin_c _ _ _) ?_
 simp only [a2, RN, qA, qB, qC, qD, qE, qF]
 refine call_d rfl rfl (rin_c _ _ _) ?_
 simp only [a3, RN, qA, qB, qC, qD, qE, qF]
 refine call_d rfl rfl (rin_c _ _ _) ?_
 simp only [a4, RN, qA, qB, qC, qD, qE, qF]
 refine call_d rfl rfl (rin_c _ _ _) ?_
 simp only [a5, List.length_map, RN, qA, qB, qC, qD, qE, qF]
 refine call_d rfl rfl (rin_c _ _ _) ?_
 by_cases l1 : inR p.cs.length 1 6 = true
 case neg =>
  have l1' : inR p.cs.length 1 6 = false := by simpa using l1
  simp only [l1', RN, qA, qB, qC, qD, qE, qF]
  simp [Piece.ok, Piece.lensOk, l1']
 by_cases l2 : p.ws.length ≤ 8
 case neg =>
  have b2 : (p.ws.length : Int) > 8 := by omega
  simp only [l1, b2, List.length_map, RN, qA, qB, qC, qD, qE, qF]
  simp [Piece.ok, Piece.lensOk, l1, b2]
 have b2 : ¬ (p.ws.length : Int) > 8 := by omega
 by_cases l3 : p.ms.length ≤ 10
 case neg =>
  have b3 : (p.ms.length : Int) > 10 := by omega
  simp only [l1, b2, b3, List.length_map, RN, qA, qB, qC, qD, qE, qF]
  simp [Piece.ok, Piece.lensOk, l1, b2, b3]
 have b3 : ¬ (p.ms.length : Int) > 10 := by omega
 simp only [l1, b2, b3, List.length_map, RN, qA, qB, qC, qD, qE, qF]
 have hlens : p.lensOk = true := by simp [Piece.lensOk, l1, b2, b3]
 have hok : p.ok = (ptsOk p.w p.h [] p.cs && mssOk p.ws.length [] p.ms && p.ws.all (whOk p.cs.length)) := by simp [Piece.ok, hh, hlens]
 rw [hok]
 refine pwp_range p.cs.length (fun i (_ : Unit) => ⟨[(1, .d (.cptr p.cells)), (3, .d (.int .i64 i))], ⟨[some (p.cells.map .d)], [0], []⟩⟩)
  (fun i _ => ptsOk p.w p.h [] p.cs = ptsOk p.w p.h (p.cs.take i) (p.cs.drop i)) 0 () (Nat.zero_le _) rfl (by simp) (fun i _ g1 hix => ?_) (fun _ hix => ?_)
 ·obtain ⟨g2, g3, g6⟩ := rng g1 (by omega)
  rw [drop_cons g1, ptsOk, ← take_snoc g1] at hix
  simp only [Piece.cells, g2, g3, g1, getD_map, Int.toNat_natCast, List.length_map, dv_Pt, List.not_mem_nil, RN, qA, qB, qC, qD, qE, qF]
  have hci : p.cs.getD i default = p.cs.getD i default := rfl
  generalize hcg : p.cs.getD i default = c at *
  refine call_d rfl rfl (rin_c _ _ _) ?_
  by_cases x1 : inR c.x 0 p.w = true
  case neg =>
   have x1' : inR c.x 0 p.w = false := by simpa using x1
   simp only [x1', RN, qA, qB, qC, qD, qE, qF]
   simp [hix, x1']
  simp only [x1, RN, qA, qB, qC, qD, qE, qF]
  refine call_d rfl rfl (rin_c _ _ _) ?_
  by_cases x2 : inR c.y 0 p.h = true
  case neg =>
   have x2' : inR c.y 0 p.h = false := by simpa using x2
   simp only [x2', RN, qA, qB, qC, qD, qE, qF]
   simp [hix, x2']
  simp only [x2, RN, qA, qB, qC, qD, qE, qF]
  rw [x1, x2, Bool.true_and, Bool.true_and] at hix
  refine pwp_range i (fun k (_ : Unit) => ⟨[(1, .d (.cptr p.cells)), (3, .d (.int .i64 i)), (4, .d (.cptr [.int .i64 c.x, .int .i64 c.y])), (5, .d (.int .i64 k))], ⟨[some (p.cells.map .d), some [.d (.int .i64 c.x), .d (.int .i64 c.y)]], [1, 0], []⟩⟩)
   (fun k _ => c ∉ p.cs.take k) 0 () (Nat.zero_le _) rfl (by simp) (fun k _ e1 hk => ?_) (fun _ hk => ?_)
  ·obtain ⟨e2, e3, e6⟩ := rng e1 (by omega)
   have e1' : k < p.cs.length := by omega
   simp only [Piece.cells, e2, e3, e1', getD_map, Int.toNat_natCast, List.length_map, dv_Pt, RN, qA, qB, qC, qD, qE, qF]
   rw [ev_binA (cellsEq_pt _ _)]
   by_cases he : p.cs.getD k default = c
   ·rw [decide_eq_true he]
    have hx : (true != false) = true := rfl
    have hmem : c ∈ p.cs.take i := by
     rw [← he, List.getD_eq_getElem?_getD, List.getElem?_eq_getElem e1']
     exact List.mem_take_iff_getElem.2 ⟨k, by omega, rfl⟩
    simp only [hx, RN, qA, qB, qC, qD, qE, qF]
    simp [hix, hmem]
   ·rw [decide_eq_false he]
    have hx : (false != false) = false := rfl
    simp only [hx, e6, RN, qA, qB, qC, qD, qE, qF]
    exact up_same () e1 rfl (by rw [take_snoc e1']; simp only [List.mem_append, List.mem_singleton, not_or]; exact ⟨hk, fun h => he h.symm⟩) (by simp) (by simp) rfl rfl
  ·have hcn : (p.cs.take i).contains c = false := by simpa using hk
   rw [hcn, Bool.not_false, Bool.true_and] at hix
   simp only [Int.lt_irrefl, g6, RN, qA, qB, qC, qD, qE, qF]
   exact up_take 1 0 () g1 rfl hix (by simp) (by simp) rfl rfl
 ·rw [List.drop_length, ptsOk] at hix
  simp only [Piece.cells, Int.lt_irrefl, List.length_map, RN, qA, qB, qC, qD, qE, qF]
  rw [hix, Bool.true_and]
  refine pwp_range p.ws.length (fun i (_ : Unit) => ⟨[(1, .d (.cptr p.cells)), (6, .d (.int .i64 i))], ⟨[some (p.cells.map .d)], [0], []⟩⟩)
   (fun i _ => p.ws.all (whOk p.cs.length) = (p.ws.drop i).all (whOk p.cs.length)) 0 () (Nat.zero_le _) rfl (by simp) (fun i _ g1 hjx => ?_) (fun _ hjx => ?_)
  ·obtain ⟨g2, g3, g6⟩ := rng g1 (by omega)
   have wl : IntKind.i64.wrap ((p.cs.length : Int) - 1) = (p.cs.length : Int) - 1 := w64_in (by omega)
   rw [drop_cons g1, List.all_cons] at hjx
   simp only [Piece.cells, g2, g3, g1, getD_map, Int.toNat_natCast, List.length_map, dv_Wh, List.not_mem_nil, wl, RN, qA, qB, qC, qD, qE, qF]
   generalize p.ws.getD i default = w at *
   refine call_d rfl rfl (rin_c _ _ _) ?_
   by_cases x1 : inR w.centre 0 ((p.cs.length : Int) - 1) = true
   case neg =>
    have x1' := eq_false_of_ne_true x1
    simp only [x1', RN, qA, qB, qC, qD, qE, qF]
    simp [hjx, whOk, x1']
   simp only [x1, RN, qA, qB, qC, qD, qE, qF]
   refine call_d rfl rfl (rin_c _ _ _) ?_
   by_cases x2 : inR w.sleeve 0 2 = true
   case neg =>
    have x2' := eq_false_of_ne_true x2
    simp only [x2', RN, qA, qB, qC, qD, qE, qF]
    simp [hjx, whOk, x2']
   simp only [x2, RN, qA, qB, qC, qD, qE, qF]
   refine call_d rfl rfl (rin_c _ _ _) ?_
   by_cases x3 : inR w.layer 0 5 = true
   case neg =>
    have x3' := eq_false_of_ne_true x3
    simp only [x3', RN, qA, qB, qC, qD, qE, qF]
    simp [hjx, whOk, x3']
   simp only [x3, RN, qA, qB, qC, qD, qE, qF]
   refine call_d rfl rfl (rin_c _ _ _) ?_
   by_cases x4 : inR w.teeth 4 50 = true
   case neg =>
    have x4' := eq_false_of_ne_true x4
    simp only [x4', RN, qA, qB, qC, qD, qE, qF]
    simp [hjx, whOk, x4']
   simp only [x4, g6, RN, qA, qB, qC, qD, qE, qF]
   exact up_take 1 0 () g1 rfl (by rw [hjx]; simp [whOk, x1, x2, x3, x4]) (by simp) (by simp) rfl rfl
  rw [List.drop_length, List.all_nil] at hjx
  rw [hjx, Bool.and_true]
  simp only [Piece.cells, Int.lt_irrefl, List.length_map, RN, qA, qB, qC, qD, qE, qF]
  refine pwp_range p.ms.length (fun i (_ : Unit) => ⟨[(1, .d (.cptr p.cells)), (8, .d (.int .i64 i))], ⟨[some (p.cells.map .d)], [0], []⟩⟩)
   (fun i _ => mssOk p.ws.length [] p.ms = mssOk p.ws.length (p.ms.take i) (p.ms.drop i)) 0 () (Nat.zero_le _) rfl (by simp) (fun i _ g1 hkx => ?_) (fun _ hkx => ?_)
  ·obtain ⟨g2, g3, g6⟩ := rng g1 (by omega)
   have hwc : ∀ n, Pure C F.ref_Wheel [.agg p.cells, .int .i64 n] (.d (.bool (inR n 0 (p.ws.length - 1)))) [] := fun n => by
    have := rWheel_c p n (by omega)
    rw [dv_Piece] at this
    exact this
   rw [drop_cons g1, mssOk, ← take_snoc g1] at hkx
   simp only [Piece.cells, g2, g3, g1, getD_map, Int.toNat_natCast, List.length_map, dv_Ms, List.not_mem_nil, RN, qA, qB, qC, qD, qE, qF]
   generalize p.ms.getD i default = c at *
   refine call_d rfl rfl (hwc _) ?_
   by_cases x1 : inR c.a 0 ((p.ws.length : Int) - 1) = true
   case neg =>
    have x1' := eq_false_of_ne_true x1
    simp only [x1', RN, qA, qB, qC, qD, qE, qF]
    simp [hkx, x1']
   simp only [x1, RN, qA, qB, qC, qD, qE, qF]
   refine call_d rfl rfl (hwc _) ?_
   by_cases x2 : inR c.b 0 ((p.ws.length : Int) - 1) = true
   case neg =>
    have x2' := eq_false_of_ne_true x2
    simp only [x2', RN, qA, qB, qC, qD, qE, qF]
    simp [hkx, x2']
   by_cases x3 : c.a ≥ c.b
   case pos =>
    simp only [x2, x3, RN, qA, qB, qC, qD, qE, qF]
    rw [hkx, decide_eq_true x3]
    simp
   simp only [x2, x3, RN, qA, qB, qC, qD, qE, qF]
   rw [x1, x2, decide_eq_false x3, Bool.not_false, Bool.true_and, Bool.true_and, Bool.true_and] at hkx
   refine pwp_range i (fun k (_ : Unit) => ⟨[(1, .d (.cptr p.cells)), (8, .d (.int .i64 i)), (9, .d (.cptr [.int .i64 c.a, .int .i64 c.b])), (10, .d (.int .i64 k))], ⟨[some (p.cells.map .d), some [.d (.int .i64 c.a), .d (.int .i64 c.b)]], [1, 0], []⟩⟩)
    (fun k _ => c ∉ p.ms.take k) 0 () (Nat.zero_le _) rfl (by simp) (fun k _ e1 hk => ?_) (fun _ hk => ?_)
   ·obtain ⟨e2, e3, e6⟩ := rng e1 (by omega)
    have e1' : k < p.ms.length := by omega
    simp only [Piece.cells, e2, e3, e1', getD_map, Int.toNat_natCast, List.length_map, dv_Ms, RN, qA, qB, qC, qD, qE, qF]
    rw [ev_binA (cellsEq_ms _ _)]
    by_cases he : p.ms.getD k default = c
    ·rw [decide_eq_true he]
     have hx : (true != false) = true := rfl
     have hmem : c ∈ p.ms.take i := by
      rw [← he, List.getD_eq_getElem?_getD, List.getElem?_eq_getElem e1']
      exact List.mem_take_iff_getElem.2 ⟨k, by omega, rfl⟩
     simp only [hx, RN, qA, qB, qC, qD, qE, qF]
     simp [hkx, hmem]
    ·rw [decide_eq_false he]
     have hx : (false != false) = false := rfl
     simp only [hx, e6, RN, qA, qB, qC, qD, qE, qF]
     exact up_same () e1 rfl (by rw [take_snoc e1']; simp only [List.mem_append, List.mem_singleton, not_or]; exact ⟨hk, fun h => he h.symm⟩) (by simp) (by simp) rfl rfl
   ·have hcn : (p.ms.take i).contains c = false := by simpa using hk
    rw [hcn, Bool.not_false, Bool.true_and] at hkx
    simp only [Int.lt_irrefl, g6, RN, qA, qB, qC, qD, qE, qF]
    exact up_take 1 0 () g1 rfl hkx (by simp) (by simp) rfl rfl
  ·rw [List.drop_length, mssOk] at hkx
   simp only [Piece.cells, Int.lt_irrefl, List.length_map, RN, qA, qB, qC, qD, qE, qF]
   rw [hkx]
end Go.Tel
open Nat renaming reduceBEq → qA, reduceAdd → qB, reduceSub → qC, reduceEqDiff → qD, reduceLT → qE, reduceLeDiff → qF
namespace Go.Tel
open Go.Am
def Piece.rmeshed (p : Piece) (a b : Int) : Bool := p.ms.any fun m => (m.a == a && m.b == b) || (m.a == b && m.b == a)
def rfold (o : Wh) : List Wh → Int × Int → Int × Int
 | [], r => r
 | w :: l, r => rfold o l (if w.centre == o.centre && w.sleeve == o.sleeve then (min r.1 w.layer, max r.2 w.layer) else r)
def Piece.rwithin (p : Piece) (i o : Int) : Bool :=
 decide ((p.wh i).sleeve < (p.wh o).sleeve) && decide ((p.wh i).layer > (rfold (p.wh o) p.ws ((p.wh o).layer, (p.wh o).layer)).1) && decide ((p.wh i).layer < (rfold (p.wh o) p.ws ((p.wh o).layer, (p.wh o).layer)).2)
def Piece.rnear (p : Piece) (a b n : Int) : Bool := decide (p.far a b < n * n)
def Piece.rmeets (p : Piece) (a b : Int) : Int :=
 if a = b then (if p.edged a then 1 else 0)
 else if p.rmeshed a b && (!p.level a b || p.centred a b || p.rnear a b (p.sum a b) || decide (p.far a b > (p.sum a b + p.pl) * (p.sum a b + p.pl))) then 2
 else if !p.rmeshed a b && p.level a b && !p.centred a b && p.rnear a b (p.sum a b + p.ga) then 3
 else if p.centred a b && p.level a b then 4
 else if p.centred a b && (p.rwithin a b || p.rwithin b a) then 5
 else if !p.centred a b && (decide ((p.wh a).layer ≤ (p.wh b).layer) && p.rnear a b ((p.wh a).teeth + p.po) || decide ((p.wh b).layer ≤ (p.wh a).layer) && p.rnear a b ((p.wh b).teeth + p.po)) then 6
 else 0
def ptFar (a b : Pt) : Int := (a.x - b.x) * (a.x - b.x) + (a.y - b.y) * (a.y - b.y)
def Wh.cells (w : Wh) : List DV := [.int .i64 w.centre, .int .i64 w.sleeve, .int .i64 w.layer, .int .i64 w.teeth]
end Go.Tel
namespace Go.Tel
open Go.Am
theorem mssOk_lt {n : Int} : ∀ {pre ms : List Ms}, mssOk n pre ms = true → ∀ m ∈ ms, 0 ≤ m.a ∧ m.a < m.b ∧ m.b ≤ n - 1
 | _, [], _, m, h => by cases h
 | pre, x :: ms, h, m, hm => by
  simp only [mssOk, inR, Bool.and_eq_true, decide_eq_true_eq, Bool.not_eq_true', decide_eq_false_iff_not, ge_iff_le] at h
  rcases List.mem_cons.1 hm with rfl | hm
  ·omega
  ·exact mssOk_lt h.2 m hm
theorem ok_mss {p : Piece} (h : p.ok = true) : ∀ m ∈ p.ms, 0 ≤ m.a ∧ m.a < m.b ∧ m.b ≤ p.ws.length - 1 := by
 simp only [Piece.ok, Bool.and_eq_true] at h
 exact mssOk_lt h.1.2
theorem mesh_same {p : Piece} (h : ∀ m ∈ p.ms, m.a < m.b) (a b : Int) : p.mesh a b = p.rmeshed a b := by
 rw [Bool.eq_iff_iff, Piece.mesh, List.contains_iff_mem, Piece.rmeshed, List.any_eq_true]
 constructor
 ·intro hm
  refine ⟨_, hm, ?_⟩
  simp only [Bool.or_eq_true, Bool.and_eq_true, beq_iff_eq]
  omega
 ·rintro ⟨⟨x, y⟩, hm, he⟩
  have := h _ hm
  simp only [Bool.or_eq_true, Bool.and_eq_true, beq_iff_eq] at he this
  have e : (⟨min a b, max a b⟩ : Ms) = ⟨x, y⟩ := by
   rw [Ms.mk.injEq]; omega
  rw [e]; exact hm
theorem bounds_same (p : Piece) (o : Int) : ∀ (ws : List Wh) (i : Nat) (r : Int × Int), p.ws.drop i = ws → p.bounds [] o i ws r = rfold (p.wh o) ws r
 | [], _, _, _ => rfl
 | w :: ws, i, r, h => by
  have hi : i < p.ws.length := by
   refine Nat.lt_of_not_le fun hh => ?_
   rw [List.drop_of_length_le hh] at h
   cases h
  have h2 := drop_cons hi
  rw [h] at h2
  obtain ⟨hw, ht⟩ := List.cons.inj h2
  have hwi : p.wh (i : Int) = w := by rw [Piece.wh, Int.toNat_natCast, ← hw]
  rw [Piece.bounds, rfold, bounds_same p o ws (i + 1) _ ht.symm]
  congr 1
  simp only [Piece.sleeved, Piece.centred, hwi, List.contains_nil, Bool.not_false, Bool.and_true]
theorem far_comm (p : Piece) (a b : Int) : p.far b a = p.far a b := by
 have e : ∀ x y : Int, sq (x - y) = sq (y - x) := fun x y => by
  rw [sq, sq, ← Int.neg_sub y x, Int.neg_mul_neg]
 rw [Piece.far, Piece.far, e (p.pt b).x, e (p.pt b).y]
theorem nested_same (p : Piece) (a b : Int) (hc : p.centred a b = true) (hl : p.level a b = false) : p.nested [] a b = (p.rwithin a b || p.rwithin b a) := by
 have e : ∀ o r, p.bounds [] o 0 p.ws r = rfold (p.wh o) p.ws r := fun o r => bounds_same p o p.ws 0 r rfl
 rw [Piece.nested]
 rcases Int.lt_trichotomy (p.wh a).sleeve (p.wh b).sleeve with h | h | h
 ·have hs : p.sleeved a b = false := by rw [Piece.sleeved, hc, Bool.true_and, beq_eq_false_iff_ne]; omega
  have h1 : ¬ (p.wh a).sleeve > (p.wh b).sleeve := by omega
  rw [hc, hs, hl, if_neg (by decide)]
  simp only [if_neg h1, e]
  rw [Bool.eq_iff_iff]
  simp only [inR, Piece.rwithin, Bool.or_eq_true, Bool.and_eq_true, decide_eq_true_eq]
  omega
 ·have hs : p.sleeved a b = true := by rw [Piece.sleeved, hc, Bool.true_and, beq_iff_eq]; exact h
  rw [hs]
  have h1 : ¬ (p.wh a).sleeve < (p.wh b).sleeve := by omega
  have h2 : ¬ (p.wh b).sleeve < (p.wh a).sleeve := by omega
  simp [Piece.rwithin, h1, h2]
 ·have hs : p.sleeved a b = false := by rw [Piece.sleeved, hc, Bool.true_and, beq_eq_false_iff_ne]; omega
  rw [hc, hs, hl, if_neg (by decide)]
  simp only [if_pos h, e]
  rw [Bool.eq_iff_iff]
  simp only [inR, Piece.rwithin, Bool.or_eq_true, Bool.and_eq_true, decide_eq_true_eq]
  omega
theorem wrong_same {p : Piece} (h : ∀ m ∈ p.ms, m.a < m.b) (a b : Int) : p.wrong [] a b = p.rmeets a b := by
 rw [Piece.wrong, Piece.rmeets]
 by_cases hab : a = b
 ·rw [if_pos hab, if_pos hab]
 rw [if_neg hab, if_neg hab]
 have e1 : p.apart a b = (p.rmeshed a b && (!p.level a b || p.centred a b || p.rnear a b (p.sum a b) || decide (p.far a b > (p.sum a b + p.pl) * (p.sum a b + p.pl)))) := by
  rw [Piece.apart, mesh_same h]; rfl
 have e2 : p.touch a b = (!p.rmeshed a b && p.level a b && !p.centred a b && p.rnear a b (p.sum a b + p.ga)) := by
  rw [Piece.touch, mesh_same h]; rfl
 rw [e1, e2]
 split
 ·rfl
 split
 ·rfl
 rw [Piece.same]
 split
 ·rfl
 rename_i hcl
 have e5 : p.nested [] a b = (p.centred a b && (p.rwithin a b || p.rwithin b a)) := by
  cases hc : p.centred a b
  ·simp [Piece.nested, hc]
  ·rw [Bool.true_and]
   refine nested_same p a b hc ?_
   cases hl : p.level a b
   ·rfl
   ·rw [hc, hl] at hcl; exact absurd rfl hcl
 have e6 : p.posted a b = (!p.centred a b && (decide ((p.wh a).layer ≤ (p.wh b).layer) && p.rnear a b ((p.wh a).teeth + p.po) || decide ((p.wh b).layer ≤ (p.wh a).layer) && p.rnear a b ((p.wh b).teeth + p.po))) := by
  rw [Piece.posted, Piece.post, Piece.post, far_comm p a b]; rfl
 rw [e5, e6]
end Go.Tel
open Nat renaming reduceBEq → qA, reduceAdd → qB, reduceSub → qC, reduceEqDiff → qD, reduceLT → qE, reduceLeDiff → qF
namespace Go.Tel
open Go.Am
def Piece.rfltB (p : Piece) (a : Nat) (l : List Nat) : Option Flt := l.findSome? fun (b : Nat) => if p.rmeets a b = 0 then none else some ⟨a, b, p.rmeets a b⟩
def Piece.rfault (p : Piece) : Option Flt := (List.range p.ws.length).findSome? fun a => p.rfltB a ((List.range p.ws.length).drop a)
theorem mem_drop_range {n a x : Nat} : x ∈ (List.range n).drop a ↔ a ≤ x ∧ x < n := by
 rw [List.mem_iff_getElem?]
 constructor
 ·rintro ⟨i, hi⟩
  rw [List.getElem?_drop] at hi
  obtain ⟨h1, h2⟩ := List.getElem?_eq_some_iff.1 hi
  simp at h1 h2
  omega
 ·rintro ⟨h1, h2⟩
  refine ⟨x - a, ?_⟩
  rw [List.getElem?_drop, show a + (x - a) = x by omega, List.getElem?_range h2]
theorem mem_drop_rng {n a x : Nat} (h : a ≤ x ∧ x < n) : x ∈ (List.range n).drop a := mem_drop_range.2 h
theorem fs_filterMap {α β γ : Type} {f : β → Option γ} {g : α → β} : ∀ l : List α, (l.filterMap fun a => some (g a)).findSome? f = l.findSome? fun a => f (g a)
 | [] => rfl
 | a :: l => by
  have e : (a :: l).filterMap (fun a => some (g a)) = g a :: l.filterMap (fun a => some (g a)) := rfl
  rw [e, List.findSome?_cons, List.findSome?_cons, fs_filterMap l]
theorem fs_flat {α β γ : Type} {f : β → Option γ} {g : α → List β} : ∀ l : List α, (l.flatMap g).findSome? f = l.findSome? fun a => (g a).findSome? f
 | [] => rfl
 | a :: l => by
  rw [List.flatMap_cons, List.findSome?_append, List.findSome?_cons, fs_flat l]
  cases (g a).findSome? f <;> rfl
theorem fault_same {p : Piece} (h : ∀ m ∈ p.ms, m.a < m.b) : p.fault [] = p.rfault := by
 rw [Piece.fault, pairsL, fs_flat, Piece.rfault]
 congr 1
 funext a
 have e : ∀ b : Nat, (if ([] : List Int).contains (a : Int) || ([] : List Int).contains (b : Int) then none else some (a, b)) = some (a, b) := fun b => rfl
 simp only [e]
 rw [fs_filterMap, Piece.rfltB]
 simp only [wrong_same h]
theorem Fault_of {q : Piece} (hok : q.ok = true) : q.Fault = match q.rfault with | some f => (f, 0) | none => (default, 5) := by
 rw [Piece.Fault, if_pos hok, fault_same fun m hm => (ok_mss hok m hm).2.1]
 cases q.rfault <;> rfl
end Go.Tel
open Nat renaming reduceBEq → qA, reduceAdd → qB, reduceSub → qC, reduceEqDiff → qD, reduceLT → qE, reduceLeDiff → qF
namespace Go.Tel
open Go.Am
def Piece.meets (p : Piece) (a b : Int) : Int × Int := if p.ok && inR a 0 (p.ws.length - 1) && inR b 0 (p.ws.length - 1) then (p.wrong [] a b, 0) else (0, 2)
set_option maxRecDepth 10000 in
theorem Meets_c (p : Piece) (hc : p.cs.length ≤ 1000) (hw : p.ws.length ≤ 1000) (hm : p.ms.length ≤ 1000) (a b : Int) : Pure C F.plate_Meets [p.dv, .int .i64 a, .int .i64 b] (.d (.tup [.int .i64 (p.meets a b).1, .int .i64 (p.meets a b).2])) [] := by
 have h1 := isPiece_c p hc hw hm
 have h2 := isWheel_c p a (by omega)
 have h3 := isWheel_c p b (by omega)
 have hl := lay_c p [] hm (by simp)
 rw [dv_Piece] at h1 h2 h3 hl
 refine pure_of_pwp_d mixed rfl ok_plate_Meets ?_
 simp only [pc_plate_Meets, rs_plate_Meets, dv_Piece, List.not_mem_nil, RN, qA, qB, qC, qD, qE, qF]
 refine call_d rfl rfl h1 ?_
 cases hok : p.ok
 ·simp only [RN, qA, qB, qC, qD, qE, qF]
  rw [Piece.meets, hok]; rfl
 simp only [RN, qA, qB, qC, qD, qE, qF]
 refine call_d rfl rfl h2 ?_
 cases ha : inR a 0 (p.ws.length - 1)
 ·simp only [RN, qA, qB, qC, qD, qE, qF]
  rw [Piece.meets, hok, ha]; rfl
 simp only [RN, qA, qB, qC, qD, qE, qF]
 refine call_d rfl rfl h3 ?_
 cases hb : inR b 0 (p.ws.length - 1)
 ·simp only [RN, qA, qB, qC, qD, qE, qF]
  rw [Piece.meets, hok, ha, hb]; rfl
 have wa : p.isW a := by simp only [inR, Bool.and_eq_true, decide_eq_true_eq] at ha; exact ⟨by omega, by omega⟩
 have wb : p.isW b := by simp only [inR, Bool.and_eq_true, decide_eq_true_eq] at hb; exact ⟨by omega, by omega⟩
 have hwr : Pure C F.plate_laid_wrong [(p.laid []).dv, .int .i64 a, .int .i64 b] (.d (.int .i64 (p.wrong [] a b))) [] := laid_wrong_c (p.laid []) (Piece.ok_good hok) (Piece.laid_fine p []) (by simp [Piece.laid]) a b wa wb
 simp only [RN, qA, qB, qC, qD, qE, qF]
 refine call_d rfl rfl hl ?_
 rw [dv_Laid] at hwr
 simp only [dv_Laid, RN, qA, qB, qC, qD, qE, qF]
 refine call_d rfl rfl hwr ?_
 simp only [RN, qA, qB, qC, qD, qE, qF]
 rw [Piece.meets, hok, ha, hb]; rfl
end Go.Tel
open Nat renaming reduceBEq → qA, reduceAdd → qB, reduceSub → qC, reduceEqDiff → qD, reduceLT → qE, reduceLeDiff → qF
namespace Go.Tel
open Go.Am
theorem rfault_none {p : Piece} (h : p.rfault = none) {i j : Nat} (hij : i ≤ j) (hj : j < p.ws.length) : p.rmeets i j = 0 := by
 rw [Piece.rfault, List.findSome?_eq_none_iff] at h
 have := h i (List.mem_range.2 (by omega))
 rw [Piece.rfltB, List.findSome?_eq_none_iff] at this
 have := this j (mem_drop_rng ⟨hij, hj⟩)
 by_cases hz : p.rmeets i j = 0
 ·exact hz
 ·rw [if_neg hz] at this; cases this
end Go.Tel
open Nat renaming reduceBEq → qA, reduceAdd → qB, reduceSub → qC, reduceEqDiff → qD, reduceLT → qE, reduceLeDiff → qF
namespace Go.Tel
open Go.Am
set_option maxRecDepth 10000 in
set_option maxHeartbeats 1000000 in
theorem rWith_c (p : Piece) (hc : p.cs.length ≤ 1000) (hw : p.ws.length ≤ 1000) (hm : p.ms.length ≤ 1000) (at_ : Pt) (teeth a b : Int) (ha : p.isW a) :
  Pure C F.ref_With [p.dv, at_.dv, .int .i64 teeth, .int .i64 a, .int .i64 b] (.d (p.with at_ (p.wh a).layer teeth (othersOf a b)).dv) [] := by
 obtain ⟨a1, a2⟩ := ha
 refine pure_of_pwp_f mixed rfl ok_ref_With ?_
 simp only [pc_ref_With, rs_ref_With, dv_Piece, dv_Pt, List.length_map, List.not_mem_nil, getD_map, a1, a2, dv_Wh, cells_t, one_t, RN, qA, qB, qC, qD, qE, qF]
 have f1 : ∀ {d : DV} {n : Nat}, d.fits n = true → ∀ y : DV, y = d → y.fits n = true := fun h y hy => by rw [hy]; exact h
 refine ⟨pts_fit p.cs, by simp, by simp, by omega, rfl, f1 rfl, by simp, by omega, whs_fit p.ws, by simp, by simp, by omega, rfl, f1 rfl, by simp, by omega, mss_fit p.ms, by simp, by simp, by omega, rfl, f1 rfl, by simp, by omega, ?_⟩
 by_cases hb : b ≥ 0
 ·simp only [hb, cells_t, one_t, List.length_append, List.length_map, RN, qA, qB, qC, qD, qE, qF]
  refine ⟨rfl, f1 rfl, by simp, by omega, ?_⟩
  simp only [cells_t, one_t, allD_t, Option.map_none, aggO_none, cells_agg, isDead_agg, RN, qA, qB, qC, qD, qE, qF]
  rw [othersOf, if_pos hb]
  simp [datum, datum0L, datum0, row_m, dv_Piece, Piece.with, dv_Pt, dv_Wh, dv_Ms, DV.strip, Piece.wh]
 ·simp only [hb, cells_t, one_t, allD_t, Option.map_none, aggO_none, cells_agg, isDead_agg, RN, qA, qB, qC, qD, qE, qF]
  rw [othersOf, if_neg hb]
  simp [datum, datum0L, datum0, row_m, dv_Piece, Piece.with, dv_Pt, dv_Wh, dv_Ms, DV.strip, Piece.wh]
def Piece.room (p : Piece) (b : Int) : Bool := decide (p.cs.length < 6) && decide (p.ws.length < 8) && decide (p.ms.length + (if b ≥ 0 then 2 else 1) ≤ 10)
set_option maxRecDepth 10000 in
theorem rRoom_c (p : Piece) (b : Int) (hm : p.ms.length ≤ 1000) : Pure C F.ref_Room [p.dv, .int .i64 b] (.d (.bool (p.room b))) [] := by
 have w1 : IntKind.i64.wrap ((p.ms.length : Int) + 1) = ((p.ms.length + 1 : Nat) : Int) := by rw [w64_in (by omega)]; omega
 have w2 : IntKind.i64.wrap ((p.ms.length : Int) + 2) = ((p.ms.length + 2 : Nat) : Int) := by rw [w64_in (by omega)]; omega
 refine pure_of_pwp_d mixed rfl ok_ref_Room ?_
 simp only [pc_ref_Room, rs_ref_Room, dv_Piece, List.not_mem_nil, RN, qA, qB, qC, qD, qE, qF]
 by_cases hb : b ≥ 0
 ·simp only [hb, List.length_map, List.not_mem_nil, RN, qA, qB, qC, qD, qE, qF]
  repeat' first
   | (refine guard_split (by rfl) (fun hB => ?_) (fun hB => ?_) <;> simp only [hB, List.length_map, w2, List.not_mem_nil, RN, qA, qB, qC, qD, qE, qF])
   | (refine cond_split (by rfl) (fun hB => ?_) (fun hB => ?_) <;> simp only [hB, List.length_map, w2, List.not_mem_nil, RN, qA, qB, qC, qD, qE, qF])
  all_goals (rw [Piece.room, if_pos hb]; simp_all <;> (intros; first | omega | (apply decide_eq_decide.2; omega) | (rw [Bool.eq_iff_iff]; simp; omega)))
 ·simp only [hb, List.length_map, List.not_mem_nil, RN, qA, qB, qC, qD, qE, qF]
  repeat' first
   | (refine guard_split (by rfl) (fun hB => ?_) (fun hB => ?_) <;> simp only [hB, List.length_map, w1, List.not_mem_nil, RN, qA, qB, qC, qD, qE, qF])
   | (refine cond_split (by rfl) (fun hB => ?_) (fun hB => ?_) <;> simp only [hB, List.length_map, w1, List.not_mem_nil, RN, qA, qB, qC, qD, qE, qF])
  all_goals (rw [Piece.room, if_neg hb]; simp_all <;> (intros; first | omega | (apply decide_eq_decide.2; omega) | (rw [Bool.eq_iff_iff]; simp; omega)))
def Piece.rq (p : Piece) (at_ : Pt) (teeth a b : Int) : Piece := p.with at_ (p.wh a).layer teeth (othersOf a b)
def Piece.rstands (p : Piece) (at_ : Pt) (teeth a b : Int) : Bool := !p.cs.contains at_ && (upTo (p.ws.length + 1)).all fun i => (p.rq at_ teeth a b).rmeets i p.ws.length == 0
def Piece.rokAt (p : Piece) (teeth a b x y : Int) : Bool :=
 decide (ptFar ⟨x, y⟩ (p.pt a) ≥ (teeth + (p.wh a).teeth) * (teeth + (p.wh a).teeth)) && decide (ptFar ⟨x, y⟩ (p.pt a) ≤ (teeth + (p.wh a).teeth + p.pl) * (teeth + (p.wh a).teeth + p.pl)) && p.rstands ⟨x, y⟩ teeth a b
def Piece.rplaceY (p : Piece) (teeth a b x : Int) : Option Pt := (upTo (p.h.toNat + 1)).findSome? fun y => if p.rokAt teeth a b x y then some ⟨x, y⟩ else none
def Piece.rplaceX (p : Piece) (teeth a b : Int) : Option Pt := (upTo (p.w.toNat + 1)).findSome? fun x => p.rplaceY teeth a b x
end Go.Tel
namespace Go.Tel
open Go.Am
theorem mem_upTo {n : Nat} {x : Int} : x ∈ upTo n ↔ 0 ≤ x ∧ x < n := by
 rw [upTo, List.mem_map]
 refine ⟨?_, fun h => ⟨x.toNat, List.mem_range.2 (by omega), by simp only [Int.ofNat_eq_natCast]; omega⟩⟩
 rintro ⟨i, hi, rfl⟩
 have := List.mem_range.1 hi
 simp only [Int.ofNat_eq_natCast]; omega
end Go.Tel
open Nat renaming reduceBEq → qA, reduceAdd → qB, reduceSub → qC, reduceEqDiff → qD, reduceLT → qE, reduceLeDiff → qF
namespace Go.Tel
open Go.Am
theorem isW_iff {p : Piece} {a : Int} (h : inR a 0 (p.ws.length - 1) = true) : p.isW a := by
 simp only [inR, Bool.and_eq_true, decide_eq_true_eq] at h
 exact ⟨by omega, by omega⟩
theorem with_pt {p : Piece} (hg : p.good) {at_ : Pt} {layer teeth : Int} {o : List Int} {a : Int} (ha : p.isW a) : (p.with at_ layer teeth o).pt a = p.pt a ∧ (p.with at_ layer teeth o).wh a = p.wh a := by
 have hw : (p.with at_ layer teeth o).wh a = p.wh a := by
  simp only [Piece.wh, Piece.with, List.getD_eq_getElem?_getD, List.getElem?_append_left ha.2]
 have hc := (hg.ws _ (getD_mem ha.2)).1.2
 refine ⟨?_, hw⟩
 rw [Piece.pt, Piece.pt, hw]
 simp only [Piece.with, List.getD_eq_getElem?_getD]
 rw [List.getElem?_append_left (by simpa [Piece.wh, List.getD_eq_getElem?_getD] using hc)]
theorem with_new {p : Piece} {at_ : Pt} {layer teeth : Int} {o : List Int} : (p.with at_ layer teeth o).wh p.ws.length = ⟨p.cs.length, 0, layer, teeth⟩ ∧ (p.with at_ layer teeth o).pt p.ws.length = at_ := by
 have hw : (p.with at_ layer teeth o).wh p.ws.length = ⟨p.cs.length, 0, layer, teeth⟩ := by
  simp [Piece.wh, Piece.with, List.getD_eq_getElem?_getD]
 refine ⟨hw, ?_⟩
 rw [Piece.pt, hw]
 simp [Piece.with, List.getD_eq_getElem?_getD]
theorem others_mem {a b : Int} : a ∈ othersOf a b := by rw [othersOf]; split <;> simp
theorem with_ms {p : Piece} (h : ∀ m ∈ p.ms, m.a < m.b) {at_ : Pt} {layer teeth a b : Int} (ha : p.isW a) (hb : b ≥ 0 → p.isW b) : ∀ m ∈ (p.with at_ layer teeth (othersOf a b)).ms, m.a < m.b := by
 intro m hm
 simp only [Piece.with, List.mem_append, List.mem_map] at hm
 rcases hm with hm | ⟨x, hx, rfl⟩
 ·exact h m hm
 ·have : p.isW x := by
   rw [othersOf] at hx
   split at hx
   ·rename_i hb0
    rcases List.mem_cons.1 hx with rfl | hx
    ·exact ha
    ·rw [List.mem_singleton.1 hx]; exact hb hb0
   ·rw [List.mem_singleton.1 hx]; exact ha
  have h1 := this.1
  have h2 := this.2
  simp only
  omega
theorem okAt_same {p : Piece} (hg : p.good) (hm : ∀ m ∈ p.ms, m.a < m.b) {teeth a b : Int} (ha : p.isW a) (hb : b ≥ 0 → p.isW b) (x y : Int) : p.okAt teeth a (othersOf a b) x y = p.rokAt teeth a b x y := by
 have hq := with_ms (at_ := ⟨x, y⟩) (layer := (p.wh a).layer) (teeth := teeth) hm ha hb
 have e1 : p.okAt teeth a (othersOf a b) x y = p.rstands ⟨x, y⟩ teeth a b := by
  rw [Piece.okAt, Piece.rstands]
  congr 1
  congr 1
  funext i
  rw [Piece.rq, ← wrong_same hq]
  rfl
 rw [e1, Piece.rokAt]
 cases hs : p.rstands ⟨x, y⟩ teeth a b
 ·rw [Bool.and_false]
 rw [Bool.and_true]
 symm
 rw [Piece.rstands, Bool.and_eq_true] at hs
 have h1 := List.all_eq_true.1 hs.2 a (mem_upTo.2 ⟨ha.1, by have := ha.1; have := ha.2; omega⟩)
 rw [beq_iff_eq, Piece.rmeets, if_neg (by have := ha.1; have := ha.2; omega)] at h1
 obtain ⟨wa, wb⟩ := with_pt hg (at_ := ⟨x, y⟩) (layer := (p.wh a).layer) (teeth := teeth) (o := othersOf a b) ha
 obtain ⟨na, nb⟩ := with_new (p := p) (at_ := ⟨x, y⟩) (layer := (p.wh a).layer) (teeth := teeth) (o := othersOf a b)
 have hmesh : (p.rq ⟨x, y⟩ teeth a b).rmeshed a p.ws.length = true := by
  rw [Piece.rmeshed, List.any_eq_true]
  refine ⟨⟨a, p.ws.length⟩, ?_, by simp⟩
  simp only [Piece.rq, Piece.with, List.mem_append, List.mem_map]
  exact .inr ⟨a, others_mem, rfl⟩
 rw [hmesh, Bool.true_and] at h1
 have hsum : (p.rq ⟨x, y⟩ teeth a b).sum a p.ws.length = teeth + (p.wh a).teeth := by
  rw [Piece.sum, Piece.rq, wb, na]; simp only; omega
 have hfar : (p.rq ⟨x, y⟩ teeth a b).far a p.ws.length = ptFar ⟨x, y⟩ (p.pt a) := by
  rw [← far_comm, Piece.far, Piece.rq, wa, nb, ptFar]; rfl
 have hpl : (p.rq ⟨x, y⟩ teeth a b).pl = p.pl := rfl
 split at h1
 ·cases h1
 ·rename_i hn
  simp only [Piece.rnear, hsum, hfar, hpl, Bool.or_eq_true, decide_eq_true_eq, not_or] at hn
  rw [Bool.and_eq_true, decide_eq_true_eq, decide_eq_true_eq]
  omega
theorem placeX_same {p : Piece} (hg : p.good) (hm : ∀ m ∈ p.ms, m.a < m.b) {teeth a b : Int} (ha : p.isW a) (hb : b ≥ 0 → p.isW b) : p.placeX teeth a (othersOf a b) = p.rplaceX teeth a b := by
 rw [Piece.placeX, Piece.rplaceX]
 congr 1
 funext x
 rw [Piece.placeY, Piece.rplaceY]
 congr 1
 funext y
 rw [okAt_same hg hm ha hb]
def Piece.rplaced (p : Piece) (teeth a b : Int) : Int := if p.placeBad teeth a b then 2 else if !p.room b then 3 else 0
set_option maxRecDepth 10000 in
set_option maxHeartbeats 1000000 in
theorem placed_c (p : Piece) (hc : p.cs.length ≤ 1000) (hw : p.ws.length ≤ 1000) (hm : p.ms.length ≤ 1000) (teeth a b : Int) : Pure C F.law_placed [p.dv, .int .i64 teeth, .int .i64 a, .int .i64 b] (.d (.int .i64 (p.rplaced teeth a b))) [] := by
 have h1 := rPiece_c p hc hw hm
 have h2 := rWheel_c p a (by omega)
 have h3 := rWheel_c p b (by omega)
 have h4 := rRoom_c p b hm
 rw [dv_Piece] at h1 h2 h3 h4
 refine pure_of_pwp_d mixed rfl ok_law_placed ?_
 simp only [pc_law_placed, rs_law_placed, dv_Piece, List.not_mem_nil, RN, qA, qB, qC, qD, qE, qF]
 repeat' first
  | (refine call_d rfl rfl (h1) ?_; try simp only [List.not_mem_nil, RN, qA, qB, qC, qD, qE, qF])
  | (refine call_d rfl rfl (h2) ?_; try simp only [List.not_mem_nil, RN, qA, qB, qC, qD, qE, qF])
  | (refine call_d rfl rfl (h3) ?_; try simp only [List.not_mem_nil, RN, qA, qB, qC, qD, qE, qF])
  | (refine call_d rfl rfl (h4) ?_; try simp only [List.not_mem_nil, RN, qA, qB, qC, qD, qE, qF])
  | (refine guard_split (by rfl) (fun hB => ?_) (fun hB => ?_) <;> simp only [hB, List.not_mem_nil, RN, qA, qB, qC, qD, qE, qF])
  | (refine cond_split (by rfl) (fun hB => ?_) (fun hB => ?_) <;> simp only [hB, List.not_mem_nil, RN, qA, qB, qC, qD, qE, qF])
 all_goals clear h1 h2 h3 h4
 all_goals (rw [Piece.rplaced, Piece.placeBad]; simp_all [inR] <;> (intros; omega))
theorem placeBad_n {p : Piece} {teeth a b : Int} (h : p.placeBad teeth a b = false) : p.ok = true ∧ (4 ≤ teeth ∧ teeth ≤ 50) ∧ p.isW a ∧ (b ≥ 0 → p.isW b) := by
 simp only [Piece.placeBad, Bool.or_eq_false_iff, Bool.not_eq_false', Bool.and_eq_false_iff, bne_eq_false_iff_eq, beq_eq_false_iff_ne] at h
 obtain ⟨⟨⟨h1, h2⟩, h3⟩, h4⟩ := h
 refine ⟨h1, by simpa [inR] using h2, isW_iff h3, fun hb => ?_⟩
 rcases h4 with rfl | ⟨h4, _⟩
 ·omega
 ·exact isW_iff h4
theorem room_eq {p : Piece} (hok : p.ok = true) (a b : Int) : (p.cs.length == 6 || p.ws.length == 8 || decide (p.ms.length + (othersOf a b).length > 10)) = !p.room b := by
 have hl := Piece.ok_lens hok
 have ho : (othersOf a b).length = if b ≥ 0 then 2 else 1 := by rw [othersOf]; split <;> rfl
 rw [Bool.eq_iff_iff, Piece.room, ho]
 simp only [Bool.or_eq_true, beq_iff_eq, decide_eq_true_eq, Bool.not_eq_true', Bool.and_eq_false_iff, decide_eq_false_iff_not]
 omega
theorem place_ok {p : Piece} {teeth a b : Int} (h : p.placeBad teeth a b = false) (hr : p.room b = true) : p.place teeth a b = match p.rplaceX teeth a b with | some pt => (pt, 0) | none => (⟨0, 0⟩, 5) := by
 obtain ⟨h1, _, h3, h4⟩ := placeBad_n h
 rw [Piece.place, h, if_neg (by decide), room_eq h1, hr, placeX_same (Piece.ok_good h1) (fun m hm => (ok_mss h1 m hm).2.1) h3 h4]
 rfl
end Go.Tel
namespace Go.Tel
open Go.Am
theorem ptsOk_snoc {w h : Int} {c : Pt} : ∀ (cs pre : List Pt), ptsOk w h pre (cs ++ [c]) = (ptsOk w h pre cs && (inR c.x 0 w && inR c.y 0 h && !(pre ++ cs).contains c))
 | [], pre => by simp only [List.nil_append, ptsOk, List.append_nil, Bool.and_true, Bool.true_and]
 | d :: cs, pre => by
  rw [List.cons_append, ptsOk, ptsOk, ptsOk_snoc cs, List.append_assoc, List.singleton_append, ← Bool.and_assoc]
theorem mssOk_append {n : Int} : ∀ (ms pre l : List Ms), mssOk n pre (ms ++ l) = (mssOk n pre ms && mssOk n (pre ++ ms) l)
 | [], pre, l => by simp only [List.nil_append, mssOk, List.append_nil, Bool.true_and]
 | m :: ms, pre, l => by
  rw [List.cons_append, mssOk, mssOk, mssOk_append ms, List.append_assoc, List.singleton_append, ← Bool.and_assoc]
theorem mssOk_mono {n k : Int} (h : n ≤ k) : ∀ (ms pre : List Ms), mssOk n pre ms = true → mssOk k pre ms = true
 | [], _, _ => rfl
 | m :: ms, pre, hh => by
  simp only [mssOk, inR, Bool.and_eq_true, decide_eq_true_eq] at hh ⊢
  obtain ⟨⟨⟨⟨h1, h2⟩, h3⟩, h4⟩, h5⟩ := hh
  exact ⟨⟨⟨⟨by omega, by omega⟩, h3⟩, h4⟩, mssOk_mono h ms _ h5⟩
theorem placeBad_b {p : Piece} {teeth a b : Int} (h : p.placeBad teeth a b = false) (hb : b ≥ 0) : a ≠ b ∧ b ≤ (p.ws.length : Int) - 1 := by
 simp only [Piece.placeBad, Bool.or_eq_false_iff, Bool.not_eq_false', Bool.and_eq_false_iff, bne_eq_false_iff_eq, beq_eq_false_iff_ne] at h
 obtain ⟨⟨⟨h1, h2⟩, h3⟩, h4⟩ := h
 rcases h4 with rfl | ⟨h4, h5⟩
 ·omega
 ·simp only [inR, Bool.and_eq_true, decide_eq_true_eq] at h4
  exact ⟨h5, h4.2⟩
theorem rq_ok {p : Piece} {at_ : Pt} {teeth a b : Int} (h : p.placeBad teeth a b = false) (hr : p.room b = true) (hx : 0 ≤ at_.x ∧ at_.x ≤ p.w) (hy : 0 ≤ at_.y ∧ at_.y ≤ p.h) :
  (p.rq at_ teeth a b).ok = !p.cs.contains at_ := by
 obtain ⟨hok, ht, ha, hb⟩ := placeBad_n h
 have hbb := placeBad_b h
 have hms := ok_mss hok
 have hl := Piece.ok_lens hok
 have hok' := hok
 simp only [Piece.ok, Bool.and_eq_true] at hok'
 obtain ⟨⟨⟨⟨k1, k2⟩, k3⟩, k4⟩, k5⟩ := hok'
 simp only [Piece.room, Bool.and_eq_true, decide_eq_true_eq] at hr
 have hw := List.all_eq_true.1 k5
 have e1 : (p.rq at_ teeth a b).headOk = true := k1
 have e2 : (p.rq at_ teeth a b).lensOk = true := by
  have ho : (othersOf a b).length = if b ≥ 0 then 2 else 1 := by rw [othersOf]; split <;> rfl
  simp only [Piece.lensOk, Piece.rq, Piece.with, List.length_append, List.length_map, List.length_singleton, ho, inR, Bool.and_eq_true, decide_eq_true_eq, Bool.not_eq_true', decide_eq_false_iff_not]
  omega
 have e3 : ptsOk (p.rq at_ teeth a b).w (p.rq at_ teeth a b).h [] (p.rq at_ teeth a b).cs = !p.cs.contains at_ := by
  show ptsOk p.w p.h [] (p.cs ++ [at_]) = _
  have i1 : inR at_.x 0 p.w = true := by simp only [inR, Bool.and_eq_true, decide_eq_true_eq]; omega
  have i2 : inR at_.y 0 p.h = true := by simp only [inR, Bool.and_eq_true, decide_eq_true_eq]; omega
  rw [ptsOk_snoc, k3, i1, i2, List.nil_append]; rfl
 have hn : ∀ x : Int, p.ms.contains (⟨x, p.ws.length⟩ : Ms) = false := fun x => by
  rw [← Bool.not_eq_true, List.contains_iff_mem]
  intro hm
  have := hms _ hm
  simp only at this
  omega
 have e4 : mssOk (p.rq at_ teeth a b).ws.length [] (p.rq at_ teeth a b).ms = true := by
  show mssOk ((p.ws ++ [(⟨p.cs.length, 0, (p.wh a).layer, teeth⟩ : Wh)]).length : Nat) [] (p.ms ++ (othersOf a b).map fun m => ⟨m, p.ws.length⟩) = true
  have hN : (((p.ws ++ [(⟨p.cs.length, 0, (p.wh a).layer, teeth⟩ : Wh)]).length : Nat) : Int) = (p.ws.length : Int) + 1 := by simp
  rw [hN, mssOk_append, mssOk_mono (by omega) _ _ k4, List.nil_append, Bool.true_and]
  have h1 := ha.1
  have h2 := ha.2
  have ia : inR a 0 ((p.ws.length : Int) + 1 - 1) = true := by simp only [inR, Bool.and_eq_true, decide_eq_true_eq]; omega
  have il : inR (p.ws.length : Int) 0 ((p.ws.length : Int) + 1 - 1) = true := by simp only [inR, Bool.and_eq_true, decide_eq_true_eq]; omega
  have da : decide (a ≥ (p.ws.length : Int)) = false := decide_eq_false (by omega)
  rw [othersOf]
  by_cases hb0 : b ≥ 0
  ·obtain ⟨b1, b2⟩ := hbb hb0
   have ib : inR b 0 ((p.ws.length : Int) + 1 - 1) = true := by simp only [inR, Bool.and_eq_true, decide_eq_true_eq]; omega
   have db : decide (b ≥ (p.ws.length : Int)) = false := decide_eq_false (by omega)
   have hcb : (p.ms ++ [(⟨a, p.ws.length⟩ : Ms)]).contains (⟨b, p.ws.length⟩ : Ms) = false := by
    rw [← Bool.not_eq_true, List.contains_iff_mem, List.mem_append, ← List.contains_iff_mem, hn b]
    intro hh
    rcases hh with hh | hh
    ·cases hh
    ·rw [List.mem_singleton, Ms.mk.injEq] at hh
     exact b1 hh.1.symm
   rw [if_pos hb0]
   simp only [List.map_cons, List.map_nil, mssOk, ia, il, da, ib, db, hn, hcb]
   rfl
  ·rw [if_neg hb0]
   simp only [List.map_cons, List.map_nil, mssOk, ia, il, da, hn]
   rfl
 have e5 : (p.rq at_ teeth a b).ws.all (whOk (p.rq at_ teeth a b).cs.length) = true := by
  show (p.ws ++ [(⟨p.cs.length, 0, (p.wh a).layer, teeth⟩ : Wh)]).all (whOk ((p.cs ++ [at_]).length : Nat)) = true
  have hN : (((p.cs ++ [at_]).length : Nat) : Int) = (p.cs.length : Int) + 1 := by simp
  rw [hN, List.all_append, Bool.and_eq_true]
  constructor
  ·rw [List.all_eq_true]
   intro w hm
   have := hw w hm
   simp only [whOk, inR, Bool.and_eq_true, decide_eq_true_eq] at this ⊢
   omega
  ·have := hw _ (getD_mem ha.2)
   simp only [List.all_cons, List.all_nil, Bool.and_true, Piece.wh, whOk, inR, Bool.and_eq_true, decide_eq_true_eq] at this ⊢
   omega
 rw [Piece.ok, e1, e2, e3, e4, e5]
 cases p.cs.contains at_ <;> rfl
theorem rfold_snoc {o w : Wh} (h : (w.centre == o.centre) = false) : ∀ (l : List Wh) (r : Int × Int), rfold o (l ++ [w]) r = rfold o l r
 | [], r => by simp only [List.nil_append, rfold, h]; rfl
 | x :: l, r => by rw [List.cons_append, rfold, rfold, rfold_snoc h l]
theorem rmeets_keep {p : Piece} (hg : p.good) {at_ : Pt} {teeth a b : Int} {i j : Int} (hi : p.isW i) (hj : p.isW j) : (p.rq at_ teeth a b).rmeets i j = p.rmeets i j := by
 obtain ⟨i1, i2⟩ := with_pt hg (at_ := at_) (layer := (p.wh a).layer) (teeth := teeth) (o := othersOf a b) hi
 obtain ⟨j1, j2⟩ := with_pt hg (at_ := at_) (layer := (p.wh a).layer) (teeth := teeth) (o := othersOf a b) hj
 have hm : (p.with at_ (p.wh a).layer teeth (othersOf a b)).rmeshed i j = p.rmeshed i j := by
  rw [Piece.rmeshed, Piece.rmeshed]
  show ((p.ms ++ (othersOf a b).map fun m => (⟨m, p.ws.length⟩ : Ms)).any _) = _
  rw [List.any_append]
  have : ((othersOf a b).map fun m => (⟨m, p.ws.length⟩ : Ms)).any (fun m => (m.a == i && m.b == j) || (m.a == j && m.b == i)) = false := by
   rw [List.any_eq_false]
   intro m hm
   obtain ⟨x, _, rfl⟩ := List.mem_map.1 hm
   have h1 := hi.1; have h2 := hi.2; have h3 := hj.1; have h4 := hj.2
   have g1 : ((p.ws.length : Int) == j) = false := beq_eq_false_iff_ne.2 (by omega)
   have g2 : ((p.ws.length : Int) == i) = false := beq_eq_false_iff_ne.2 (by omega)
   simp only [g1, g2, Bool.and_false, Bool.or_self]
   decide
  rw [this, Bool.or_false]
 have hf : ∀ k, p.isW k → ∀ r, rfold (p.wh k) (p.with at_ (p.wh a).layer teeth (othersOf a b)).ws r = rfold (p.wh k) p.ws r := fun k hk r => by
  have := (hg.ws _ (getD_mem hk.2)).1
  exact rfold_snoc (beq_eq_false_iff_ne.2 (by show (p.cs.length : Int) ≠ (p.ws.getD k.toNat default).centre; omega)) _ _
 have hpl : (p.with at_ (p.wh a).layer teeth (othersOf a b)).pl = p.pl := rfl
 have hga : (p.with at_ (p.wh a).layer teeth (othersOf a b)).ga = p.ga := rfl
 have hpo : (p.with at_ (p.wh a).layer teeth (othersOf a b)).po = p.po := rfl
 have hw : (p.with at_ (p.wh a).layer teeth (othersOf a b)).w = p.w := rfl
 have hh : (p.with at_ (p.wh a).layer teeth (othersOf a b)).h = p.h := rfl
 rw [Piece.rq]
 simp only [Piece.rmeets, Piece.edged, Piece.rwithin, Piece.rnear, Piece.far, Piece.sum, Piece.level, Piece.centred, hm, i1, i2, j1, j2, hf i hi, hf j hj, hpl, hga, hpo, hw, hh]
 rfl
theorem rfault_all {p : Piece} (h : ∀ i j : Nat, i ≤ j → j < p.ws.length → p.rmeets i j = 0) : p.rfault = none := by
 rw [Piece.rfault, List.findSome?_eq_none_iff]
 intro i hi
 rw [Piece.rfltB, List.findSome?_eq_none_iff]
 intro j hj
 have h1 := List.mem_range.1 (List.mem_of_mem_drop hj)
 have h2 : i ≤ j := by
  obtain ⟨k, hk, e⟩ := List.getElem_of_mem hj
  rw [List.getElem_drop, List.getElem_range] at e
  omega
 rw [if_pos (h i j h2 h1)]
theorem rstands_meets {p : Piece} {at_ : Pt} {teeth a b : Int} (h : p.rstands at_ teeth a b = true) (i : Nat) (hi : i ≤ p.ws.length) : (p.rq at_ teeth a b).rmeets i p.ws.length = 0 := by
 rw [Piece.rstands, Bool.and_eq_true, List.all_eq_true] at h
 have := h.2 i (mem_upTo.2 (by omega))
 exact beq_iff_eq.1 this
theorem rfault_with {p : Piece} (hg : p.good) {at_ : Pt} {teeth a b : Int} (h : p.rstands at_ teeth a b = true) (hf : p.rfault = none) : (p.rq at_ teeth a b).rfault = none := by
 refine rfault_all fun i j hij hj => ?_
 have hl : (p.rq at_ teeth a b).ws.length = p.ws.length + 1 := by simp [Piece.rq, Piece.with]
 rw [hl] at hj
 by_cases hjn : j = p.ws.length
 ·subst hjn
  exact rstands_meets h i hij
 ·rw [rmeets_keep hg ⟨by omega, by omega⟩ ⟨by omega, by omega⟩]
  exact rfault_none hf hij (by omega)
theorem up_some {γ : Type} {f : Int → Option γ} {y : γ} : ∀ n : Nat, (upTo n).findSome? f = some y → ∃ i : Nat, i < n ∧ f i = some y ∧ ∀ j : Nat, j < i → f j = none
 | 0, h => by cases h
 | n + 1, h => by
  rw [upTo_succ, List.findSome?_append] at h
  cases hh : (upTo n).findSome? f with
  | some z =>
   rw [hh] at h
   cases h
   obtain ⟨i, h1, h2, h3⟩ := up_some n hh
   exact ⟨i, by omega, h2, h3⟩
  | none =>
   rw [hh] at h
   rw [List.findSome?_eq_none_iff] at hh
   refine ⟨n, by omega, ?_, fun j hj => hh _ (mem_upTo.2 (by omega))⟩
   cases hf : f (n : Int) with
   | some z => simpa [hf] using h
   | none => simp [hf] at h
theorem rokAt_eq {p : Piece} (hg : p.good) (hm : ∀ m ∈ p.ms, m.a < m.b) {teeth a b : Int} (ha : p.isW a) (hb : b ≥ 0 → p.isW b) (x y : Int) : p.rokAt teeth a b x y = p.rstands ⟨x, y⟩ teeth a b := by
 have hq := with_ms (at_ := ⟨x, y⟩) (layer := (p.wh a).layer) (teeth := teeth) hm ha hb
 rw [← okAt_same hg hm ha hb, Piece.okAt, Piece.rstands]
 congr 1
 congr 1
 funext i
 rw [Piece.rq, ← wrong_same hq]
 rfl
theorem place_first {p : Piece} (hg : p.good) (hm : ∀ m ∈ p.ms, m.a < m.b) {teeth a b : Int} (ha : p.isW a) (hb : b ≥ 0 → p.isW b) {pt : Pt} (h : p.rplaceX teeth a b = some pt) :
  (0 ≤ pt.x ∧ pt.x ≤ p.w) ∧ (0 ≤ pt.y ∧ pt.y ≤ p.h) ∧ p.rstands pt teeth a b = true ∧ ∀ o : Pt, 0 ≤ o.x → 0 ≤ o.y → o.y ≤ p.h → (o.x < pt.x ∨ (o.x = pt.x ∧ o.y < pt.y)) → p.rstands o teeth a b = false := by
 have h1 := hg.w
 have h2 := hg.h
 obtain ⟨X, hX, e1, e2⟩ := up_some _ h
 obtain ⟨Y, hY, e3, e4⟩ := up_some _ e1
 have hy : ∀ {x y : Int}, p.rokAt teeth a b x y = p.rstands ⟨x, y⟩ teeth a b := fun {x y} => rokAt_eq hg hm ha hb x y
 have e5 : p.rstands ⟨X, Y⟩ teeth a b = true ∧ (⟨X, Y⟩ : Pt) = pt := by
  rw [hy] at e3
  cases hs : p.rstands ⟨X, Y⟩ teeth a b
  ·rw [hs] at e3; cases e3
  ·rw [hs] at e3; exact ⟨rfl, Option.some.inj e3⟩
 obtain ⟨e5, rfl⟩ := e5
 refine ⟨by simp only; omega, by simp only; omega, e5, ?_⟩
 rintro ⟨ox, oy⟩ o1 o2 o3 hc
 simp only at o1 o2 o3 hc
 obtain ⟨x, rfl⟩ := Int.eq_ofNat_of_zero_le o1
 obtain ⟨y, rfl⟩ := Int.eq_ofNat_of_zero_le o2
 have key : ∀ q : Bool, (if q = true then some (⟨x, y⟩ : Pt) else none) = none → q = false := fun q hq => by
  cases q
  ·rfl
  ·cases hq
 rcases hc with hc | ⟨hc, hd⟩
 ·have := e2 x (by omega)
  rw [Piece.rplaceY, List.findSome?_eq_none_iff] at this
  have := this y (mem_upTo.2 (by omega))
  rw [hy] at this
  exact key _ this
 ·have hxX : x = X := by omega
  subst hxX
  have := e4 y (by omega)
  rw [hy] at this
  exact key _ this
theorem place_none {p : Piece} (hg : p.good) (hm : ∀ m ∈ p.ms, m.a < m.b) {teeth a b : Int} (ha : p.isW a) (hb : b ≥ 0 → p.isW b) (h : p.rplaceX teeth a b = none) {o : Pt} (hx : 0 ≤ o.x ∧ o.x ≤ p.w) (hy : 0 ≤ o.y ∧ o.y ≤ p.h) : p.rstands o teeth a b = false := by
 rw [Piece.rplaceX, List.findSome?_eq_none_iff] at h
 have h1 := h o.x (mem_upTo.2 (by omega))
 rw [Piece.rplaceY, List.findSome?_eq_none_iff] at h1
 have h2 := h1 o.y (mem_upTo.2 (by omega))
 rw [rokAt_eq hg hm ha hb] at h2
 cases hs : p.rstands o teeth a b
 ·rfl
 ·rw [show (⟨o.x, o.y⟩ : Pt) = o from rfl, hs] at h2; cases h2
theorem hasV_pt {x : DV} (h : HasV ptTy x) : ∃ p : Pt, x = p.dv := has_pt x h.1 h.2
end Go.Tel
open Nat renaming reduceBEq → qA, reduceAdd → qB, reduceSub → qC, reduceEqDiff → qD, reduceLT → qE, reduceLeDiff → qF
namespace Go.Tel
open Go.Am
set_option maxRecDepth 10000 in
set_option maxHeartbeats 2000000 in
theorem stands_c {p : Piece} {at_ : Pt} {teeth a b : Int} (hbad : p.placeBad teeth a b = false) (hr : p.room b = true) (hx : 0 ≤ at_.x ∧ at_.x ≤ p.w) (hy : 0 ≤ at_.y ∧ at_.y ≤ p.h) :
  Pure C F.law_stands [p.dv, at_.dv, .int .i64 teeth, .int .i64 a, .int .i64 b] (.d (.bool (p.rstands at_ teeth a b))) [] := by
 obtain ⟨hok, ht, ha, hb⟩ := placeBad_n hbad
 have hl := Piece.ok_lens hok
 have hq := rq_ok hbad hr hx hy
 have h1 := rWith_c p (by omega) (by omega) (by omega) at_ teeth a b ha
 have hst : p.rstands at_ teeth a b = (!p.cs.contains at_ && (upTo (p.ws.length + 1)).all fun i => (p.rq at_ teeth a b).rmeets i p.ws.length == 0) := rfl
 have e : p.with at_ (p.wh a).layer teeth (othersOf a b) = p.rq at_ teeth a b := rfl
 rw [e] at h1
 have l1 : (p.rq at_ teeth a b).cs.length = p.cs.length + 1 := by simp [Piece.rq, Piece.with]
 have l2 : (p.rq at_ teeth a b).ws.length = p.ws.length + 1 := by simp [Piece.rq, Piece.with]
 have l3 : (p.rq at_ teeth a b).ms.length ≤ p.ms.length + 2 := by
  simp only [Piece.rq, Piece.with, List.length_append, List.length_map, othersOf]
  split <;> simp
 have h2 := rPiece_c (p.rq at_ teeth a b) (by omega) (by omega) (by omega)
 have h3 := fun x y => Meets_c (p.rq at_ teeth a b) (by omega) (by omega) (by omega) x y
 generalize hqe : p.rq at_ teeth a b = q at *
 rw [dv_Piece, dv_Pt, dv_Piece] at h1
 rw [dv_Piece] at h2
 simp only [dv_Piece] at h3
 refine pure_of_pwp_d mixed rfl ok_law_stands ?_
 simp only [pc_law_stands, rs_law_stands, dv_Piece, dv_Pt, List.not_mem_nil, RN, qA, qB, qC, qD, qE, qF]
 refine call_d rfl rfl h1 ?_
 simp only [List.not_mem_nil, RN, qA, qB, qC, qD, qE, qF]
 refine call_d rfl rfl h2 ?_
 rw [hq]
 cases hc : p.cs.contains at_
 case true =>
  simp only [Bool.not_true, RN, qA, qB, qC, qD, qE, qF]
  rw [hst, hc]; rfl
 rw [hc, Bool.not_false, Bool.true_and] at hst
 rw [hc] at hq
 simp only [Bool.not_false, RN, qA, qB, qC, qD, qE, qF]
 refine pwp_range (p.ws.length + 1) (fun i (_ : Unit) => ⟨[(5, .d (.cptr p.cells)), (11, .d (.cptr q.cells)), (12, .d (.int .i64 i))], ⟨[some (p.cells.map .d), some [.d (.int .i64 at_.x), .d (.int .i64 at_.y)], some (q.cells.map .d)], [2, 1, 0], []⟩⟩)
  (fun i _ => p.rstands at_ teeth a b = ((upTo (p.ws.length + 1)).drop i).all fun i => q.rmeets i p.ws.length == 0) 0 () (Nat.zero_le _) rfl hst (fun i _ g1 hix => ?_) (fun _ hix => ?_)
 ·have g2 : (i : Int) < ((p.ws.length + 1 : Nat) : Int) := by omega
  have g6 : IntKind.i64.wrap ((i : Int) + 1) = ((i + 1 : Nat) : Int) := by rw [w64_in (by omega)]; omega
  have hd : (upTo (p.ws.length + 1)).drop i = (i : Int) :: (upTo (p.ws.length + 1)).drop (i + 1) := by
   rw [drop_cons (by rw [upTo_len]; exact g1)]
   congr 1
   simp [upTo, List.getD_eq_getElem?_getD, g1]
  rw [hd, List.all_cons] at hix
  have hm : q.meets i p.ws.length = (q.rmeets i p.ws.length, 0) := by
   have w1 : inR (i : Int) 0 (q.ws.length - 1) = true := by simp only [inR, Bool.and_eq_true, decide_eq_true_eq]; omega
   have w2 : inR (p.ws.length : Int) 0 (q.ws.length - 1) = true := by simp only [inR, Bool.and_eq_true, decide_eq_true_eq]; omega
   have w3 : q.ok = true := hq
   rw [Piece.meets, w3, w1, w2, ← wrong_same fun m hm => (ok_mss w3 m hm).2.1]; rfl
  have h4 := h3 i p.ws.length
  rw [hm] at h4
  have n0 : ((0 : Int) != 0) = false := rfl
  simp only [Piece.cells, l2, g2, List.length_map, RN, qA, qB, qC, qD, qE, qF]
  refine call_d rfl rfl h4 ?_
  by_cases hz : q.rmeets i p.ws.length = 0
  ·rw [hz, beq_self_eq_true, Bool.true_and] at hix
   rw [hz]
   simp only [n0, g6, RN, qA, qB, qC, qD, qE, qF]
   exact up_same () g1 rfl hix (by simp) (by simp) rfl rfl
  ·have e1 : (q.rmeets i p.ws.length != 0) = true := bne_iff_ne.2 hz
   have e2 : (q.rmeets i p.ws.length == 0) = false := beq_eq_false_iff_ne.2 hz
   rw [e2, Bool.false_and] at hix
   simp only [n0, e1, RN, qA, qB, qC, qD, qE, qF]
   rw [hix]
 ·rw [List.drop_of_length_le (by rw [upTo_len]; exact Nat.le_refl _), List.all_nil] at hix
  have g2 : ¬ ((p.ws.length + 1 : Nat) : Int) < ((p.ws.length + 1 : Nat) : Int) := by omega
  simp only [Piece.cells, l2, g2, List.length_map, RN, qA, qB, qC, qD, qE, qF]
  rw [hix]
end Go.Tel
