/-
  Part 2 of the proof of a law of plates, the law itself: an abstract machine over the model, contracts of functions, plain laws.
  Conditions: none.
-/
import Derived.Test.YtpjjdinlflfgkabGreatDoorPlateFirstL01
set_option linter.all false
namespace Go.Tel
theorem minmax_M {a b : Int} : (if b > a then b else a) = max a b := by omega
end Go.Tel
open Nat renaming reduceBEq → qA, reduceAdd → qB, reduceSub → qC, reduceEqDiff → qD, reduceLT → qE, reduceLeDiff → qF
namespace Go.Tel
open Go.Am
theorem cellsEq_pt (x y : Pt) : cellsEq [1, 1] [.int .i64 x.x, .int .i64 x.y] [.int .i64 y.x, .int .i64 y.y] = some (decide (x = y)) := by
 obtain ⟨a, b⟩ := x
 obtain ⟨c, d⟩ := y
 by_cases h1 : a = c <;> by_cases h2 : b = d <;> simp [cellsEq, h1, h2]
theorem cellsEq_ms (x y : Ms) : cellsEq [1, 1] [.int .i64 x.a, .int .i64 x.b] [.int .i64 y.a, .int .i64 y.b] = some (decide (x = y)) := by
 obtain ⟨a, b⟩ := x
 obtain ⟨c, d⟩ := y
 by_cases h1 : a = c <;> by_cases h2 : b = d <;> simp [cellsEq, h1, h2]
set_option maxRecDepth 10000 in
set_option maxHeartbeats 4000000 in
theorem rPiece_c (p : Piece) (hc : p.cs.length ≤ 1000) (hw : p.ws.length ≤ 1000) (hm : p.ms.length ≤ 1000) : Pure C F.ref_Piece [p.dv] (.d (.bool p.ok)) [] := by
 refine pure_of_pwp_d mixed rfl ok_ref_Piece ?_
 simp only [pc_ref_Piece, rs_ref_Piece, dv_Piece, RN, qA, qB, qC, qD, qE, qF]
 by_cases hh : p.headOk = true
 case neg =>
  have hok : p.ok = false := by simp [Piece.ok, hh]
  rw [hok]
  repeat' first
   | (refine call_d rfl rfl (rin_c _ _ _) ?_; try simp only [RN, qA, qB, qC, qD, qE, qF])
   | (refine guard_split (by rfl) (fun hB => ?_) (fun hB => ?_) <;> simp only [hB, RN, qA, qB, qC, qD, qE, qF])
   | (refine cond_split (by rfl) (fun hB => ?_) (fun hB => ?_) <;> simp only [hB, RN, qA, qB, qC, qD, qE, qF])
  all_goals (first | rfl | (exfalso; simp_all [Piece.headOk]; done))
 have hh' := hh
 simp only [Piece.headOk, Bool.and_eq_true] at hh'
 obtain ⟨⟨⟨⟨a1, a2⟩, a3⟩, a4⟩, a5⟩ := hh'
 refine call_d rfl rfl (rin_c _ _ _) ?_
 simp only [a1, RN, qA, qB, qC, qD, qE, qF]
 refine call_d rfl rfl (rin_c _ _ _) ?_
 simp only [a2, RN, qA, qB, qC, qD, qE, qF]
 refine call_d rfl rfl (rin_c _ _ _) ?_
 simp only [a3, RN, qA, qB, qC, qD, qE, qF]
 refine call_d rfl rfl (rin_c _ _ _) ?_
 simp only [a4, RN, qA, qB, qC, qD, qE, qF]
 refine call_d rfl rfl (rin_c _ _ _) ?_
 simp only [a5, List.length_map, RN, qA, qB, qC, qD, qE, qF]
 refine call_d rfl rfl (rin_c _ _ _) ?_
 by_cases l1 : inR p.cs.length 1 6 = true
 case neg =>
  have l1' : inR p.cs.length 1 6 = false := by simpa using l1
  simp only [l1', RN, qA, qB, qC, qD, qE, qF]
  simp [Piece.ok, Piece.lensOk, l1']
 by_cases l2 : p.ws.length ≤ 8
 case neg =>
  have b2 : (p.ws.length : Int) > 8 := by omega
  simp only [l1, b2, List.length_map, RN, qA, qB, qC, qD, qE, qF]
  simp [Piece.ok, Piece.lensOk, l1, b2]
 have b2 : ¬ (p.ws.length : Int) > 8 := by omega
 by_cases l3 : p.ms.length ≤ 10
 case neg =>
  have b3 : (p.ms.length : Int) > 10 := by omega
  simp only [l1, b2, b3, List.length_map, RN, qA, qB, qC, qD, qE, qF]
  simp [Piece.ok, Piece.lensOk, l1, b2, b3]
 have b3 : ¬ (p.ms.length : Int) > 10 := by omega
 simp only [l1, b2, b3, List.length_map, RN, qA, qB, qC, qD, qE, qF]
 have hlens : p.lensOk = true := by simp [Piece.lensOk, l1, b2, b3]
 have hok : p.ok = (ptsOk p.w p.h [] p.cs && mssOk p.ws.length [] p.ms && p.ws.all (whOk p.cs.length)) := by simp [Piece.ok, hh, hlens]
 rw [hok]
 refine pwp_range p.cs.length (fun i (_ : Unit) => ⟨[(1, .d (.cptr p.cells)), (3, .d (.int .i64 i))], ⟨[some (p.cells.map .d)], [0], []⟩⟩)
  (fun i _ => ptsOk p.w p.h [] p.cs = ptsOk p.w p.h (p.cs.take i) (p.cs.drop i)) 0 () (Nat.zero_le _) rfl (by simp) (fun i _ g1 hix => ?_) (fun _ hix => ?_)
 ·obtain ⟨g2, g3, g6⟩ := rng g1 (by omega)
  rw [drop_cons g1, ptsOk, ← take_snoc g1] at hix
  simp only [Piece.cells, g2, g3, g1, getD_map, Int.toNat_natCast, List.length_map, dv_Pt, List.not_mem_nil, RN, qA, qB, qC, qD, qE, qF]
  have hci : p.cs.getD i default = p.cs.getD i default := rfl
  generalize hcg : p.cs.getD i default = c at *
  refine call_d rfl rfl (rin_c _ _ _) ?_
  by_cases x1 : inR c.x 0 p.w = true
  case neg =>
   have x1' : inR c.x 0 p.w = false := by simpa using x1
   simp only [x1', RN, qA, qB, qC, qD, qE, qF]
   simp [hix, x1']
  simp only [x1, RN, qA, qB, qC, qD, qE, qF]
  refine call_d rfl rfl (rin_c _ _ _) ?_
  by_cases x2 : inR c.y 0 p.h = true
  case neg =>
   have x2' : inR c.y 0 p.h = false := by simpa using x2
   simp only [x2', RN, qA, qB, qC, qD, qE, qF]
   simp [hix, x2']
  simp only [x2, RN, qA, qB, qC, qD, qE, qF]
  rw [x1, x2, Bool.true_and, Bool.true_and] at hix
  refine pwp_range i (fun k (_ : Unit) => ⟨[(1, .d (.cptr p.cells)), (3, .d (.int .i64 i)), (4, .d (.cptr [.int .i64 c.x, .int .i64 c.y])), (5, .d (.int .i64 k))], ⟨[some (p.cells.map .d), some [.d (.int .i64 c.x), .d (.int .i64 c.y)]], [1, 0], []⟩⟩)
   (fun k _ => c ∉ p.cs.take k) 0 () (Nat.zero_le _) rfl (by simp) (fun k _ e1 hk => ?_) (fun _ hk => ?_)
  ·obtain ⟨e2, e3, e6⟩ := rng e1 (by omega)
   have e1' : k < p.cs.length := by omega
   simp only [Piece.cells, e2, e3, e1', getD_map, Int.toNat_natCast, List.length_map, dv_Pt, RN, qA, qB, qC, qD, qE, qF]
   rw [ev_binA (cellsEq_pt _ _)]
   by_cases he : p.cs.getD k default = c
   ·rw [decide_eq_true he]
    have hx : (true != false) = true := rfl
    have hmem : c ∈ p.cs.take i := by
     rw [← he, List.getD_eq_getElem?_getD, List.getElem?_eq_getElem e1']
     exact List.mem_take_iff_getElem.2 ⟨k, by omega, rfl⟩
    simp only [hx, RN, qA, qB, qC, qD, qE, qF]
    simp [hix, hmem]
   ·rw [decide_eq_false he]
    have hx : (false != false) = false := rfl
    simp only [hx, e6, RN, qA, qB, qC, qD, qE, qF]
    exact up_same () e1 rfl (by rw [take_snoc e1']; simp only [List.mem_append, List.mem_singleton, not_or]; exact ⟨hk, fun h => he h.symm⟩) (by simp) (by simp) rfl rfl
  ·have hcn : (p.cs.take i).contains c = false := by simpa using hk
   rw [hcn, Bool.not_false, Bool.true_and] at hix
   simp only [Int.lt_irrefl, g6, RN, qA, qB, qC, qD, qE, qF]
   exact up_take 1 0 () g1 rfl hix (by simp) (by simp) rfl rfl
 ·rw [List.drop_length, ptsOk] at hix
  simp only [Piece.cells, Int.lt_irrefl, List.length_map, RN, qA, qB, qC, qD, qE, qF]
  rw [hix, Bool.true_and]
  refine pwp_range p.ws.length (fun i (_ : Unit) => ⟨[(1, .d (.cptr p.cells)), (6, .d (.int .i64 i))], ⟨[some (p.cells.map .d)], [0], []⟩⟩)
   (fun i _ => p.ws.all (whOk p.cs.length) = (p.ws.drop i).all (whOk p.cs.length)) 0 () (Nat.zero_le _) rfl (by simp) (fun i _ g1 hjx => ?_) (fun _ hjx => ?_)
  ·obtain ⟨g2, g3, g6⟩ := rng g1 (by omega)
   have wl : IntKind.i64.wrap ((p.cs.length : Int) - 1) = (p.cs.length : Int) - 1 := w64_in (by omega)
   rw [drop_cons g1, List.all_cons] at hjx
   simp only [Piece.cells, g2, g3, g1, getD_map, Int.toNat_natCast, List.length_map, dv_Wh, List.not_mem_nil, wl, RN, qA, qB, qC, qD, qE, qF]
   generalize p.ws.getD i default = w at *
   refine call_d rfl rfl (rin_c _ _ _) ?_
   by_cases x1 : inR w.centre 0 ((p.cs.length : Int) - 1) = true
   case neg =>
    have x1' := eq_false_of_ne_true x1
    simp only [x1', RN, qA, qB, qC, qD, qE, qF]
    simp [hjx, whOk, x1']
   simp only [x1, RN, qA, qB, qC, qD, qE, qF]
   refine call_d rfl rfl (rin_c _ _ _) ?_
   by_cases x2 : inR w.sleeve 0 2 = true
   case neg =>
    have x2' := eq_false_of_ne_true x2
    simp only [x2', RN, qA, qB, qC, qD, qE, qF]
    simp [hjx, whOk, x2']
   simp only [x2, RN, qA, qB, qC, qD, qE, qF]
   refine call_d rfl rfl (rin_c _ _ _) ?_
   by_cases x3 : inR w.layer 0 5 = true
   case neg =>
    have x3' := eq_false_of_ne_true x3
    simp only [x3', RN, qA, qB, qC, qD, qE, qF]
    simp [hjx, whOk, x3']
   simp only [x3, RN, qA, qB, qC, qD, qE, qF]
   refine call_d rfl rfl (rin_c _ _ _) ?_
   by_cases x4 : inR w.teeth 4 50 = true
   case neg =>
    have x4' := eq_false_of_ne_true x4
    simp only [x4', RN, qA, qB, qC, qD, qE, qF]
    simp [hjx, whOk, x4']
   simp only [x4, g6, RN, qA, qB, qC, qD, qE, qF]
   exact up_take 1 0 () g1 rfl (by rw [hjx]; simp [whOk, x1, x2, x3, x4]) (by simp) (by simp) rfl rfl
  rw [List.drop_length, List.all_nil] at hjx
  rw [hjx, Bool.and_true]
  simp only [Piece.cells, Int.lt_irrefl, List.length_map, RN, qA, qB, qC, qD, qE, qF]
  refine pwp_range p.ms.length (fun i (_ : Unit) => ⟨[(1, .d (.cptr p.cells)), (8, .d (.int .i64 i))], ⟨[some (p.cells.map .d)], [0], []⟩⟩)
   (fun i _ => mssOk p.ws.length [] p.ms = mssOk p.ws.length (p.ms.take i) (p.ms.drop i)) 0 () (Nat.zero_le _) rfl (by simp) (fun i _ g1 hkx => ?_) (fun _ hkx => ?_)
  ·obtain ⟨g2, g3, g6⟩ := rng g1 (by omega)
   have hwc : ∀ n, Pure C F.ref_Wheel [.agg p.cells, .int .i64 n] (.d (.bool (inR n 0 (p.ws.length - 1)))) [] := fun n => by
    have := rWheel_c p n (by omega)
    rw [dv_Piece] at this
    exact this
   rw [drop_cons g1, mssOk, ← take_snoc g1] at hkx
   simp only [Piece.cells, g2, g3, g1, getD_map, Int.toNat_natCast, List.length_map, dv_Ms, List.not_mem_nil, RN, qA, qB, qC, qD, qE, qF]
   generalize p.ms.getD i default = c at *
   refine call_d rfl rfl (hwc _) ?_
   by_cases x1 : inR c.a 0 ((p.ws.length : Int) - 1) = true
   case neg =>
    have x1' := eq_false_of_ne_true x1
    simp only [x1', RN, qA, qB, qC, qD, qE, qF]
    simp [hkx, x1']
   simp only [x1, RN, qA, qB, qC, qD, qE, qF]
   refine call_d rfl rfl (hwc _) ?_
   by_cases x2 : inR c.b 0 ((p.ws.length : Int) - 1) = true
   case neg =>
    have x2' := eq_false_of_ne_true x2
    simp only [x2', RN, qA, qB, qC, qD, qE, qF]
    simp [hkx, x2']
   by_cases x3 : c.a ≥ c.b
   case pos =>
    simp only [x2, x3, RN, qA, qB, qC, qD, qE, qF]
    rw [hkx, decide_eq_true x3]
    simp
   simp only [x2, x3, RN, qA, qB, qC, qD, qE, qF]
   rw [x1, x2, decide_eq_false x3, Bool.not_false, Bool.true_and, Bool.true_and, Bool.true_and] at hkx
   refine pwp_range i (fun k (_ : Unit) => ⟨[(1, .d (.cptr p.cells)), (8, .d (.int .i64 i)), (9, .d (.cptr [.int .i64 c.a, .int .i64 c.b])), (10, .d (.int .i64 k))], ⟨[some (p.cells.map .d), some [.d (.int .i64 c.a), .d (.int .i64 c.b)]], [1, 0], []⟩⟩)
    (fun k _ => c ∉ p.ms.take k) 0 () (Nat.zero_le _) rfl (by simp) (fun k _ e1 hk => ?_) (fun _ hk => ?_)
   ·obtain ⟨e2, e3, e6⟩ := rng e1 (by omega)
    have e1' : k < p.ms.length := by omega
    simp only [Piece.cells, e2, e3, e1', getD_map, Int.toNat_natCast, List.length_map, dv_Ms, RN, qA, qB, qC, qD, qE, qF]
    rw [ev_binA (cellsEq_ms _ _)]
    by_cases he : p.ms.getD k default = c
    ·rw [decide_eq_true he]
     have hx : (true != false) = true := rfl
     have hmem : c ∈ p.ms.take i := by
      rw [← he, List.getD_eq_getElem?_getD, List.getElem?_eq_getElem e1']
      exact List.mem_take_iff_getElem.2 ⟨k, by omega, rfl⟩
     simp only [hx, RN, qA, qB, qC, qD, qE, qF]
     simp [hkx, hmem]
    ·rw [decide_eq_false he]
     have hx : (false != false) = false := rfl
     simp only [hx, e6, RN, qA, qB, qC, qD, qE, qF]
     exact up_same () e1 rfl (by rw [take_snoc e1']; simp only [List.mem_append, List.mem_singleton, not_or]; exact ⟨hk, fun h => he h.symm⟩) (by simp) (by simp) rfl rfl
   ·have hcn : (p.ms.take i).contains c = false := by simpa using hk
    rw [hcn, Bool.not_false, Bool.true_and] at hkx
    simp only [Int.lt_irrefl, g6, RN, qA, qB, qC, qD, qE, qF]
    exact up_take 1 0 () g1 rfl hkx (by simp) (by simp) rfl rfl
  ·rw [List.drop_length, mssOk] at hkx
   simp only [Piece.cells, Int.lt_irrefl, List.length_map, RN, qA, qB, qC, qD, qE, qF]
   rw [hkx]
end Go.Tel
open Nat renaming reduceBEq → qA, reduceAdd → qB, reduceSub → qC, reduceEqDiff → qD, reduceLT → qE, reduceLeDiff → qF
namespace Go.Tel
open Go.Am
def Piece.rmeshed (p : Piece) (a b : Int) : Bool := p.ms.any fun m => (m.a == a && m.b == b) || (m.a == b && m.b == a)
def rfold (o : Wh) : List Wh → Int × Int → Int × Int
 | [], r => r
 | w :: l, r => rfold o l (if w.centre == o.centre && w.sleeve == o.sleeve then (min r.1 w.layer, max r.2 w.layer) else r)
def Piece.rwithin (p : Piece) (i o : Int) : Bool :=
 decide ((p.wh i).sleeve < (p.wh o).sleeve) && decide ((p.wh i).layer > (rfold (p.wh o) p.ws ((p.wh o).layer, (p.wh o).layer)).1) && decide ((p.wh i).layer < (rfold (p.wh o) p.ws ((p.wh o).layer, (p.wh o).layer)).2)
def Piece.rnear (p : Piece) (a b n : Int) : Bool := decide (p.far a b < n * n)
def Piece.rmeets (p : Piece) (a b : Int) : Int :=
 if a = b then (if p.edged a then 1 else 0)
 else if p.rmeshed a b && (!p.level a b || p.centred a b || p.rnear a b (p.sum a b) || decide (p.far a b > (p.sum a b + p.pl) * (p.sum a b + p.pl))) then 2
 else if !p.rmeshed a b && p.level a b && !p.centred a b && p.rnear a b (p.sum a b + p.ga) then 3
 else if p.centred a b && p.level a b then 4
 else if p.centred a b && (p.rwithin a b || p.rwithin b a) then 5
 else if !p.centred a b && (decide ((p.wh a).layer ≤ (p.wh b).layer) && p.rnear a b ((p.wh a).teeth + p.po) || decide ((p.wh b).layer ≤ (p.wh a).layer) && p.rnear a b ((p.wh b).teeth + p.po)) then 6
 else 0
def Wh.cells (w : Wh) : List DV := [.int .i64 w.centre, .int .i64 w.sleeve, .int .i64 w.layer, .int .i64 w.teeth]
end Go.Tel
namespace Go.Tel
open Go.Am
theorem mssOk_lt {n : Int} : ∀ {pre ms : List Ms}, mssOk n pre ms = true → ∀ m ∈ ms, 0 ≤ m.a ∧ m.a < m.b ∧ m.b ≤ n - 1
 | _, [], _, m, h => by cases h
 | pre, x :: ms, h, m, hm => by
  simp only [mssOk, inR, Bool.and_eq_true, decide_eq_true_eq, Bool.not_eq_true', decide_eq_false_iff_not, ge_iff_le] at h
  rcases List.mem_cons.1 hm with rfl | hm
  ·omega
  ·exact mssOk_lt h.2 m hm
theorem ok_mss {p : Piece} (h : p.ok = true) : ∀ m ∈ p.ms, 0 ≤ m.a ∧ m.a < m.b ∧ m.b ≤ p.ws.length - 1 := by
 simp only [Piece.ok, Bool.and_eq_true] at h
 exact mssOk_lt h.1.2
theorem mesh_same {p : Piece} (h : ∀ m ∈ p.ms, m.a < m.b) (a b : Int) : p.mesh a b = p.rmeshed a b := by
 rw [Bool.eq_iff_iff, Piece.mesh, List.contains_iff_mem, Piece.rmeshed, List.any_eq_true]
 constructor
 ·intro hm
  refine ⟨_, hm, ?_⟩
  simp only [Bool.or_eq_true, Bool.and_eq_true, beq_iff_eq]
  omega
 ·rintro ⟨⟨x, y⟩, hm, he⟩
  have := h _ hm
  simp only [Bool.or_eq_true, Bool.and_eq_true, beq_iff_eq] at he this
  have e : (⟨min a b, max a b⟩ : Ms) = ⟨x, y⟩ := by
   rw [Ms.mk.injEq]; omega
  rw [e]; exact hm
theorem bounds_same (p : Piece) (o : Int) : ∀ (ws : List Wh) (i : Nat) (r : Int × Int), p.ws.drop i = ws → p.bounds [] o i ws r = rfold (p.wh o) ws r
 | [], _, _, _ => rfl
 | w :: ws, i, r, h => by
  have hi : i < p.ws.length := by
   refine Nat.lt_of_not_le fun hh => ?_
   rw [List.drop_of_length_le hh] at h
   cases h
  have h2 := drop_cons hi
  rw [h] at h2
  obtain ⟨hw, ht⟩ := List.cons.inj h2
  have hwi : p.wh (i : Int) = w := by rw [Piece.wh, Int.toNat_natCast, ← hw]
  rw [Piece.bounds, rfold, bounds_same p o ws (i + 1) _ ht.symm]
  congr 1
  simp only [Piece.sleeved, Piece.centred, hwi, List.contains_nil, Bool.not_false, Bool.and_true]
theorem far_comm (p : Piece) (a b : Int) : p.far b a = p.far a b := by
 have e : ∀ x y : Int, sq (x - y) = sq (y - x) := fun x y => by
  rw [sq, sq, ← Int.neg_sub y x, Int.neg_mul_neg]
 rw [Piece.far, Piece.far, e (p.pt b).x, e (p.pt b).y]
theorem nested_same (p : Piece) (a b : Int) (hc : p.centred a b = true) (hl : p.level a b = false) : p.nested [] a b = (p.rwithin a b || p.rwithin b a) := by
 have e : ∀ o r, p.bounds [] o 0 p.ws r = rfold (p.wh o) p.ws r := fun o r => bounds_same p o p.ws 0 r rfl
 rw [Piece.nested]
 rcases Int.lt_trichotomy (p.wh a).sleeve (p.wh b).sleeve with h | h | h
 ·have hs : p.sleeved a b = false := by rw [Piece.sleeved, hc, Bool.true_and, beq_eq_false_iff_ne]; omega
  have h1 : ¬ (p.wh a).sleeve > (p.wh b).sleeve := by omega
  rw [hc, hs, hl, if_neg (by decide)]
  simp only [if_neg h1, e]
  rw [Bool.eq_iff_iff]
  simp only [inR, Piece.rwithin, Bool.or_eq_true, Bool.and_eq_true, decide_eq_true_eq]
  omega
 ·have hs : p.sleeved a b = true := by rw [Piece.sleeved, hc, Bool.true_and, beq_iff_eq]; exact h
  rw [hs]
  have h1 : ¬ (p.wh a).sleeve < (p.wh b).sleeve := by omega
  have h2 : ¬ (p.wh b).sleeve < (p.wh a).sleeve := by omega
  simp [Piece.rwithin, h1, h2]
 ·have hs : p.sleeved a b = false := by rw [Piece.sleeved, hc, Bool.true_and, beq_eq_false_iff_ne]; omega
  rw [hc, hs, hl, if_neg (by decide)]
  simp only [if_pos h, e]
  rw [Bool.eq_iff_iff]
  simp only [inR, Piece.rwithin, Bool.or_eq_true, Bool.and_eq_true, decide_eq_true_eq]
  omega
theorem wrong_same {p : Piece} (h : ∀ m ∈ p.ms, m.a < m.b) (a b : Int) : p.wrong [] a b = p.rmeets a b := by
 rw [Piece.wrong, Piece.rmeets]
 by_cases hab : a = b
 ·rw [if_pos hab, if_pos hab]
 rw [if_neg hab, if_neg hab]
 have e1 : p.apart a b = (p.rmeshed a b && (!p.level a b || p.centred a b || p.rnear a b (p.sum a b) || decide (p.far a b > (p.sum a b + p.pl) * (p.sum a b + p.pl)))) := by
  rw [Piece.apart, mesh_same h]; rfl
 have e2 : p.touch a b = (!p.rmeshed a b && p.level a b && !p.centred a b && p.rnear a b (p.sum a b + p.ga)) := by
  rw [Piece.touch, mesh_same h]; rfl
 rw [e1, e2]
 split
 ·rfl
 split
 ·rfl
 rw [Piece.same]
 split
 ·rfl
 rename_i hcl
 have e5 : p.nested [] a b = (p.centred a b && (p.rwithin a b || p.rwithin b a)) := by
  cases hc : p.centred a b
  ·simp [Piece.nested, hc]
  ·rw [Bool.true_and]
   refine nested_same p a b hc ?_
   cases hl : p.level a b
   ·rfl
   ·rw [hc, hl] at hcl; exact absurd rfl hcl
 have e6 : p.posted a b = (!p.centred a b && (decide ((p.wh a).layer ≤ (p.wh b).layer) && p.rnear a b ((p.wh a).teeth + p.po) || decide ((p.wh b).layer ≤ (p.wh a).layer) && p.rnear a b ((p.wh b).teeth + p.po))) := by
  rw [Piece.posted, Piece.post, Piece.post, far_comm p a b]; rfl
 rw [e5, e6]
end Go.Tel
open Nat renaming reduceBEq → qA, reduceAdd → qB, reduceSub → qC, reduceEqDiff → qD, reduceLT → qE, reduceLeDiff → qF
namespace Go.Tel
open Go.Am
theorem range_getD {n i : Nat} (h : i < n) : (List.range n).getD i default = i := by
 rw [List.getD_eq_getElem?_getD, List.getElem?_range h]; rfl
def Piece.rfltB (p : Piece) (a : Nat) (l : List Nat) : Option Flt := l.findSome? fun (b : Nat) => if p.rmeets a b = 0 then none else some ⟨a, b, p.rmeets a b⟩
def Piece.rfault (p : Piece) : Option Flt := (List.range p.ws.length).findSome? fun a => p.rfltB a ((List.range p.ws.length).drop a)
theorem mem_drop_range {n a x : Nat} : x ∈ (List.range n).drop a ↔ a ≤ x ∧ x < n := by
 rw [List.mem_iff_getElem?]
 constructor
 ·rintro ⟨i, hi⟩
  rw [List.getElem?_drop] at hi
  obtain ⟨h1, h2⟩ := List.getElem?_eq_some_iff.1 hi
  simp at h1 h2
  omega
 ·rintro ⟨h1, h2⟩
  refine ⟨x - a, ?_⟩
  rw [List.getElem?_drop, show a + (x - a) = x by omega, List.getElem?_range h2]
theorem mem_drop_rng {n a x : Nat} (h : a ≤ x ∧ x < n) : x ∈ (List.range n).drop a := mem_drop_range.2 h
theorem fs_filterMap {α β γ : Type} {f : β → Option γ} {g : α → β} : ∀ l : List α, (l.filterMap fun a => some (g a)).findSome? f = l.findSome? fun a => f (g a)
 | [] => rfl
 | a :: l => by
  have e : (a :: l).filterMap (fun a => some (g a)) = g a :: l.filterMap (fun a => some (g a)) := rfl
  rw [e, List.findSome?_cons, List.findSome?_cons, fs_filterMap l]
theorem fs_flat {α β γ : Type} {f : β → Option γ} {g : α → List β} : ∀ l : List α, (l.flatMap g).findSome? f = l.findSome? fun a => (g a).findSome? f
 | [] => rfl
 | a :: l => by
  rw [List.flatMap_cons, List.findSome?_append, List.findSome?_cons, fs_flat l]
  cases (g a).findSome? f <;> rfl
theorem fault_same {p : Piece} (h : ∀ m ∈ p.ms, m.a < m.b) : p.fault [] = p.rfault := by
 rw [Piece.fault, pairsL, fs_flat, Piece.rfault]
 congr 1
 funext a
 have e : ∀ b : Nat, (if ([] : List Int).contains (a : Int) || ([] : List Int).contains (b : Int) then none else some (a, b)) = some (a, b) := fun b => rfl
 simp only [e]
 rw [fs_filterMap, Piece.rfltB]
 simp only [wrong_same h]
theorem Fault_of {q : Piece} (hok : q.ok = true) : q.Fault = match q.rfault with | some f => (f, 0) | none => (default, 5) := by
 rw [Piece.Fault, if_pos hok, fault_same fun m hm => (ok_mss hok m hm).2.1]
 cases q.rfault <;> rfl
end Go.Tel
open Nat renaming reduceBEq → qA, reduceAdd → qB, reduceSub → qC, reduceEqDiff → qD, reduceLT → qE, reduceLeDiff → qF
namespace Go.Tel
open Go.Am
def Piece.meets (p : Piece) (a b : Int) : Int × Int := if p.ok && inR a 0 (p.ws.length - 1) && inR b 0 (p.ws.length - 1) then (p.wrong [] a b, 0) else (0, 2)
set_option maxRecDepth 10000 in
theorem Meets_c (p : Piece) (hc : p.cs.length ≤ 1000) (hw : p.ws.length ≤ 1000) (hm : p.ms.length ≤ 1000) (a b : Int) : Pure C F.plate_Meets [p.dv, .int .i64 a, .int .i64 b] (.d (.tup [.int .i64 (p.meets a b).1, .int .i64 (p.meets a b).2])) [] := by
 have h1 := isPiece_c p hc hw hm
 have h2 := isWheel_c p a (by omega)
 have h3 := isWheel_c p b (by omega)
 have hl := lay_c p [] hm (by simp)
 rw [dv_Piece] at h1 h2 h3 hl
 refine pure_of_pwp_d mixed rfl ok_plate_Meets ?_
 simp only [pc_plate_Meets, rs_plate_Meets, dv_Piece, List.not_mem_nil, RN, qA, qB, qC, qD, qE, qF]
 refine call_d rfl rfl h1 ?_
 cases hok : p.ok
 ·simp only [RN, qA, qB, qC, qD, qE, qF]
  rw [Piece.meets, hok]; rfl
 simp only [RN, qA, qB, qC, qD, qE, qF]
 refine call_d rfl rfl h2 ?_
 cases ha : inR a 0 (p.ws.length - 1)
 ·simp only [RN, qA, qB, qC, qD, qE, qF]
  rw [Piece.meets, hok, ha]; rfl
 simp only [RN, qA, qB, qC, qD, qE, qF]
 refine call_d rfl rfl h3 ?_
 cases hb : inR b 0 (p.ws.length - 1)
 ·simp only [RN, qA, qB, qC, qD, qE, qF]
  rw [Piece.meets, hok, ha, hb]; rfl
 have wa : p.isW a := by simp only [inR, Bool.and_eq_true, decide_eq_true_eq] at ha; exact ⟨by omega, by omega⟩
 have wb : p.isW b := by simp only [inR, Bool.and_eq_true, decide_eq_true_eq] at hb; exact ⟨by omega, by omega⟩
 have hwr : Pure C F.plate_laid_wrong [(p.laid []).dv, .int .i64 a, .int .i64 b] (.d (.int .i64 (p.wrong [] a b))) [] := laid_wrong_c (p.laid []) (Piece.ok_good hok) (Piece.laid_fine p []) (by simp [Piece.laid]) a b wa wb
 simp only [RN, qA, qB, qC, qD, qE, qF]
 refine call_d rfl rfl hl ?_
 rw [dv_Laid] at hwr
 simp only [dv_Laid, RN, qA, qB, qC, qD, qE, qF]
 refine call_d rfl rfl hwr ?_
 simp only [RN, qA, qB, qC, qD, qE, qF]
 rw [Piece.meets, hok, ha, hb]; rfl
end Go.Tel
open Nat renaming reduceBEq → qA, reduceAdd → qB, reduceSub → qC, reduceEqDiff → qD, reduceLT → qE, reduceLeDiff → qF
namespace Go.Tel
open Go.Am
theorem drop_find {n : Nat} {γ : Type} {f : Nat → Option γ} {y : γ} : ∀ (d k : Nat), d = n - k → ((List.range n).drop k).findSome? f = some y → ∃ i, k ≤ i ∧ i < n ∧ f i = some y ∧ ∀ j, k ≤ j → j < i → f j = none
 | 0, k, hd, h => by
  rw [List.drop_eq_nil_of_le (by simp; omega)] at h
  cases h
 | d + 1, k, hd, h => by
  have hk : k < n := by omega
  rw [drop_cons (l := List.range n) (i := k) (by simpa using hk), range_getD hk, List.findSome?_cons] at h
  cases hf : f k with
  | some z =>
   rw [hf] at h
   cases h
   exact ⟨k, Nat.le_refl _, hk, hf, fun j h1 h2 => by omega⟩
  | none =>
   rw [hf] at h
   obtain ⟨i, h1, h2, h3, h4⟩ := drop_find d (k + 1) (by omega) h
   refine ⟨i, by omega, h2, h3, fun j g1 g2 => ?_⟩
   by_cases e : j = k
   ·rw [e]; exact hf
   ·exact h4 j (by omega) g2
theorem rfault_some {p : Piece} {f : Flt} (h : p.rfault = some f) : ∃ a b : Nat, a ≤ b ∧ b < p.ws.length ∧ f = ⟨a, b, p.rmeets a b⟩ ∧ p.rmeets a b ≠ 0 ∧ ∀ i j : Nat, i ≤ j → j < p.ws.length → (i < a ∨ (i = a ∧ j < b)) → p.rmeets i j = 0 := by
 obtain ⟨a, _, ha, h1, h2⟩ := drop_find (n := p.ws.length) p.ws.length 0 rfl (by rw [List.drop_zero]; exact h)
 rw [Piece.rfltB] at h1
 obtain ⟨b, hab, hb, h3, h4⟩ := drop_find (n := p.ws.length) _ a rfl h1
 have hz : p.rmeets a b ≠ 0 := by
  intro hz; rw [if_pos hz] at h3; cases h3
 rw [if_neg hz] at h3
 refine ⟨a, b, hab, hb, (Option.some.inj h3).symm, hz, ?_⟩
 intro i j hij hj hc
 have key : ∀ {q : Prop} [Decidable q] {x : Flt}, (if q then none else some x) = (none : Option Flt) → q := fun {q} _ {x} hh => by
  by_cases hq : q
  ·exact hq
  ·rw [if_neg hq] at hh; cases hh
 rcases hc with hc | ⟨rfl, hc⟩
 ·have := h2 i (Nat.zero_le _) hc
  rw [Piece.rfltB, List.findSome?_eq_none_iff] at this
  exact key (this j (mem_drop_rng ⟨hij, hj⟩))
 ·exact key (h4 j hij hc)
theorem rfault_none {p : Piece} (h : p.rfault = none) {i j : Nat} (hij : i ≤ j) (hj : j < p.ws.length) : p.rmeets i j = 0 := by
 rw [Piece.rfault, List.findSome?_eq_none_iff] at h
 have := h i (List.mem_range.2 (by omega))
 rw [Piece.rfltB, List.findSome?_eq_none_iff] at this
 have := this j (mem_drop_rng ⟨hij, hj⟩)
 by_cases hz : p.rmeets i j = 0
 ·exact hz
 ·rw [if_neg hz] at this; cases this
theorem rmeets_comm (p : Piece) (a b : Int) : p.rmeets b a = p.rmeets a b := by
 rw [Piece.rmeets, Piece.rmeets]
 by_cases h : a = b
 ·subst h; rfl
 rw [if_neg (fun e => h e.symm), if_neg h]
 have h1 : p.rmeshed b a = p.rmeshed a b := by
  rw [Piece.rmeshed, Piece.rmeshed]
  congr 1
  funext m
  rw [Bool.or_comm]
 have h2 : p.level b a = p.level a b := by rw [Piece.level, Piece.level, Bool.beq_comm]
 have h3 : p.centred b a = p.centred a b := by rw [Piece.centred, Piece.centred, Bool.beq_comm]
 have h4 : ∀ n, p.rnear b a n = p.rnear a b n := fun n => by rw [Piece.rnear, Piece.rnear, far_comm]
 have h5 : p.sum b a = p.sum a b := by rw [Piece.sum, Piece.sum, Int.add_comm]
 have h6 := far_comm p a b
 simp only [h1, h2, h3, h4, h5, h6, Bool.or_comm (p.rwithin b a), Bool.or_comm (decide ((p.wh b).layer ≤ (p.wh a).layer) && _)]
theorem rmeets_range (p : Piece) (a b : Int) : 0 ≤ p.rmeets a b ∧ p.rmeets a b ≤ 6 ∧ (a = b → p.rmeets a b = 0 ∨ p.rmeets a b = 1) ∧ (a ≠ b → p.rmeets a b ≠ 1) := by
 rw [Piece.rmeets]
 by_cases h : a = b
 ·rw [if_pos h]
  split <;> simp [h]
 ·rw [if_neg h]
  refine ⟨?_, ?_, fun e => absurd e h, fun _ => ?_⟩ <;> (repeat' split) <;> decide
set_option maxRecDepth 10000 in
set_option maxHeartbeats 4000000 in
theorem PlateFirst_c (hkn : KnownC) (p : Piece) (a b : Int) : Pure Go.Tel.C F.law_PlateFirst [p.dv, .int .i64 a, .int .i64 b] (.d (.bool true)) [] := by
 have hkn : Pure C F.law_known [] (.d (.bool true)) [] := hkn
 have n0 : ((0 : Int) != 0) = false := rfl
 have n5 : ((5 : Int) != 0) = true := rfl
 have y0 : ((0 : Int) == 0) = true := rfl
 have y5 : ((5 : Int) == 5) = true := rfl
 have hsh := short_c p
 rw [dv_Piece] at hsh
 refine pure_of_pwp_d mixed rfl ok_law_PlateFirst ?_
 simp only [pc_law_PlateFirst, rs_law_PlateFirst, dv_Piece, List.not_mem_nil, RN, qA, qB, qC, qD, qE, qF]
 refine call_d rfl rfl hsh ?_
 cases hs : p.short
 ·simp only [RN, qA, qB, qC, qD, qE, qF]
  refine call_d rfl rfl hkn ?_
  simp only [RN, qA, qB, qC, qD, qE, qF]
 simp only [Piece.short, Bool.and_eq_true, decide_eq_true_eq] at hs
 obtain ⟨⟨s1, s2⟩, s3⟩ := hs
 have h1 := rPiece_c p (by omega) (by omega) (by omega)
 have h2 := rWheel_c p a (by omega)
 have h3 := rWheel_c p b (by omega)
 have hme := Meets_c p (by omega) (by omega) (by omega)
 have hfa := Fault_c lay_c fault_c p (by omega) (by omega) (by omega)
 rw [dv_Piece] at h1 h2 h3 hme hfa
 simp only [RN, qA, qB, qC, qD, qE, qF]
 refine call_d rfl rfl h1 ?_
 cases hok : p.ok
 ·simp only [RN, qA, qB, qC, qD, qE, qF]
  refine call_d rfl rfl hkn ?_
  simp only [RN, qA, qB, qC, qD, qE, qF]
 simp only [RN, qA, qB, qC, qD, qE, qF]
 refine call_d rfl rfl h2 ?_
 cases ha : inR a 0 (p.ws.length - 1)
 ·simp only [RN, qA, qB, qC, qD, qE, qF]
  refine call_d rfl rfl hkn ?_
  simp only [RN, qA, qB, qC, qD, qE, qF]
 simp only [RN, qA, qB, qC, qD, qE, qF]
 refine call_d rfl rfl h3 ?_
 cases hb : inR b 0 (p.ws.length - 1)
 ·simp only [RN, qA, qB, qC, qD, qE, qF]
  refine call_d rfl rfl hkn ?_
  simp only [RN, qA, qB, qC, qD, qE, qF]
 have hlt : ∀ m ∈ p.ms, m.a < m.b := fun m hm => (ok_mss hok m hm).2.1
 have e3 := Fault_of hok
 have hmeets : ∀ x y, inR x 0 (p.ws.length - 1) = true → inR y 0 (p.ws.length - 1) = true → p.meets x y = (p.rmeets x y, 0) := fun x y hx hy => by
  rw [Piece.meets, hok, hx, hy, ← wrong_same hlt]; rfl
 have m1 := hmeets a b ha hb
 have m2 := hmeets b a hb ha
 rw [rmeets_comm] at m2
 obtain ⟨r1, r2, r3, r4⟩ := rmeets_range p a b
 have ha' : 0 ≤ a ∧ a ≤ (p.ws.length : Int) - 1 := by simpa [inR] using ha
 have hb' : 0 ≤ b ∧ b ≤ (p.ws.length : Int) - 1 := by simpa [inR] using hb
 obtain ⟨A, rfl⟩ := Int.eq_ofNat_of_zero_le ha'.1
 obtain ⟨B, rfl⟩ := Int.eq_ofNat_of_zero_le hb'.1
 have hx1 := hme A B
 have hx2 := hme B A
 rw [m1] at hx1
 rw [m2] at hx2
 rw [e3] at hfa
 have hnf : ∀ (i j : Nat), i ≤ j → (A = i ∧ B = j ∨ A = j ∧ B = i) → p.rmeets i j = p.rmeets A B := fun i j _ h => by
  rcases h with ⟨rfl, rfl⟩ | ⟨rfl, rfl⟩
  ·rfl
  ·exact rmeets_comm p _ _
 generalize hk : p.rmeets A B = k at *
 have q1 : ¬ k < 0 := by omega
 have q2 : ¬ k > 6 := by omega
 have q3 : (k != k) = false := by rw [bne, beq_self_eq_true]; rfl
 simp only [RN, qA, qB, qC, qD, qE, qF]
 refine call_d rfl rfl hfa ?_
 cases hx : p.rfault with
 | none =>
  have hk0 : k = 0 := by
   rcases Nat.le_total A B with h | h
   ·rw [← hnf A B h (.inl ⟨rfl, rfl⟩)]; exact rfault_none hx h (by omega)
   ·rw [← hnf B A h (.inr ⟨rfl, rfl⟩)]; exact rfault_none hx h (by omega)
  subst hk0
  have n1 : ((0 : Int) == 1) = false := rfl
  have d0 : (default : Flt).dv = .agg [.int .i64 0, .int .i64 0, .int .i64 0] := rfl
  simp only [d0, List.not_mem_nil, RN, qA, qB, qC, qD, qE, qF]
  refine call_d rfl rfl hx1 ?_
  simp only [RN, qA, qB, qC, qD, qE, qF]
  refine call_d rfl rfl hx2 ?_
  by_cases hab : (A : Int) = B
  ·have c1 : ((A : Int) == B) = true := beq_iff_eq.2 hab
   have c2 : ((A : Int) != B) = false := by rw [bne, c1]; rfl
   simp only [n0, n5, y5, y0, q1, q2, c1, c2, RN, qA, qB, qC, qD, qE, qF]
   refine call_d rfl rfl hkn ?_
   simp only [RN, qA, qB, qC, qD, qE, qF]
  ·have c1 : ((A : Int) == B) = false := beq_eq_false_iff_ne.2 hab
   have c2 : ((A : Int) != B) = true := by rw [bne, c1]; rfl
   simp only [n0, n5, y5, y0, n1, q1, q2, c1, c2, RN, qA, qB, qC, qD, qE, qF]
   refine call_d rfl rfl hkn ?_
   simp only [RN, qA, qB, qC, qD, qE, qF]
 | some f =>
  obtain ⟨i, j, hij, hj, rfl, hnz, hbef⟩ := rfault_some hx
  have wi : inR (i : Int) 0 (p.ws.length - 1) = true := by simp only [inR, Bool.and_eq_true, decide_eq_true_eq]; omega
  have wj : inR (j : Int) 0 (p.ws.length - 1) = true := by simp only [inR, Bool.and_eq_true, decide_eq_true_eq]; omega
  have hx3 := hme i j
  rw [hmeets i j wi wj] at hx3
  have h4 := rWheel_c p i (by omega)
  have h5 := rWheel_c p j (by omega)
  rw [dv_Piece] at h4 h5
  rw [wi] at h4
  rw [wj] at h5
  have g1 : ¬ (i : Int) > j := by omega
  have g2 : (p.rmeets i j == 0) = false := beq_eq_false_iff_ne.2 hnz
  have g3 : (p.rmeets i j == p.rmeets i j) = true := beq_self_eq_true _
  have hk0 : (min (A : Int) B < i ∨ (min (A : Int) B = i ∧ max (A : Int) B < j)) → k = 0 := by
   intro h
   rcases Nat.le_total A B with h' | h'
   ·rw [← hnf A B h' (.inl ⟨rfl, rfl⟩)]; exact hbef A B h' (by omega) (by omega)
   ·rw [← hnf B A h' (.inr ⟨rfl, rfl⟩)]; exact hbef B A h' (by omega) (by omega)
  generalize p.rmeets i j = kk at *
  have fin : ∀ t : Bool, t = (k == 0) → (min (A : Int) B < i ∨ (min (A : Int) B = i ∧ max (A : Int) B < j)) → t = true := fun t ht h => by
   rw [ht, hk0 h]; rfl
  simp only [dv_Flt, List.not_mem_nil, RN, qA, qB, qC, qD, qE, qF]
  refine call_d rfl rfl hx1 ?_
  simp only [RN, qA, qB, qC, qD, qE, qF]
  refine call_d rfl rfl hx2 ?_
  have hcase : ((A : Int) = B ∧ k = 0) ∨ ((A : Int) = B ∧ k = 1) ∨ ((A : Int) ≠ B ∧ k ≠ 1) := by
   by_cases hab : (A : Int) = B
   ·rcases r3 hab with h | h
    ·exact .inl ⟨hab, h⟩
    ·exact .inr (.inl ⟨hab, h⟩)
   ·exact .inr (.inr ⟨hab, r4 hab⟩)
  rcases hcase with ⟨hab, hk1⟩ | ⟨hab, hk1⟩ | ⟨hab, hk1⟩
  ·have c1 : ((A : Int) == B) = true := beq_iff_eq.2 hab
   have c2 : ((A : Int) != B) = false := by rw [bne, c1]; rfl
   have f1 : (k != 0) = false := by rw [hk1]; rfl
   simp only [n0, q1, q2, q3, c1, c2, f1, RN, qA, qB, qC, qD, qE, qF]
   refine call_d rfl rfl h4 ?_
   simp only [RN, qA, qB, qC, qD, qE, qF]
   refine call_d rfl rfl h5 ?_
   simp only [g1, g2, RN, qA, qB, qC, qD, qE, qF]
   refine call_d rfl rfl hx3 ?_
   by_cases b1 : min (A : Int) B < i
   ·have e0 : (k == 0) = true := beq_iff_eq.2 (hk0 (.inl b1))
    simp only [minmax_m, minmax_M, b1, y0, g3, e0, RN, qA, qB, qC, qD, qE, qF]
    refine call_d rfl rfl hkn ?_
    simp only [RN, qA, qB, qC, qD, qE, qF]
   by_cases b2 : min (A : Int) B = i
   ·have e2 : (min (A : Int) B == i) = true := beq_iff_eq.2 b2
    by_cases b3 : max (A : Int) B < j
    ·have e0 : (k == 0) = true := beq_iff_eq.2 (hk0 (.inr ⟨b2, b3⟩))
     simp only [minmax_m, minmax_M, b1, e2, b3, y0, g3, e0, RN, qA, qB, qC, qD, qE, qF]
     refine call_d rfl rfl hkn ?_
     simp only [RN, qA, qB, qC, qD, qE, qF]
    ·simp only [minmax_m, minmax_M, b1, e2, b3, y0, g3, RN, qA, qB, qC, qD, qE, qF]
     refine call_d rfl rfl hkn ?_
     simp only [RN, qA, qB, qC, qD, qE, qF]
   ·have e2 : (min (A : Int) B == i) = false := beq_eq_false_iff_ne.2 b2
    simp only [minmax_m, minmax_M, b1, e2, y0, g3, RN, qA, qB, qC, qD, qE, qF]
    refine call_d rfl rfl hkn ?_
    simp only [RN, qA, qB, qC, qD, qE, qF]
  ·have c1 : ((A : Int) == B) = true := beq_iff_eq.2 hab
   have c2 : ((A : Int) != B) = false := by rw [bne, c1]; rfl
   have f1 : (k != 0) = true := by rw [hk1]; rfl
   have f2 : (k != 1) = false := by rw [hk1]; rfl
   simp only [n0, q1, q2, q3, c1, c2, f1, f2, RN, qA, qB, qC, qD, qE, qF]
   refine call_d rfl rfl h4 ?_
   simp only [RN, qA, qB, qC, qD, qE, qF]
   refine call_d rfl rfl h5 ?_
   simp only [g1, g2, RN, qA, qB, qC, qD, qE, qF]
   refine call_d rfl rfl hx3 ?_
   by_cases b1 : min (A : Int) B < i
   ·have e0 : (k == 0) = true := beq_iff_eq.2 (hk0 (.inl b1))
    simp only [minmax_m, minmax_M, b1, y0, g3, e0, RN, qA, qB, qC, qD, qE, qF]
    refine call_d rfl rfl hkn ?_
    simp only [RN, qA, qB, qC, qD, qE, qF]
   by_cases b2 : min (A : Int) B = i
   ·have e2 : (min (A : Int) B == i) = true := beq_iff_eq.2 b2
    by_cases b3 : max (A : Int) B < j
    ·have e0 : (k == 0) = true := beq_iff_eq.2 (hk0 (.inr ⟨b2, b3⟩))
     simp only [minmax_m, minmax_M, b1, e2, b3, y0, g3, e0, RN, qA, qB, qC, qD, qE, qF]
     refine call_d rfl rfl hkn ?_
     simp only [RN, qA, qB, qC, qD, qE, qF]
    ·simp only [minmax_m, minmax_M, b1, e2, b3, y0, g3, RN, qA, qB, qC, qD, qE, qF]
     refine call_d rfl rfl hkn ?_
     simp only [RN, qA, qB, qC, qD, qE, qF]
   ·have e2 : (min (A : Int) B == i) = false := beq_eq_false_iff_ne.2 b2
    simp only [minmax_m, minmax_M, b1, e2, y0, g3, RN, qA, qB, qC, qD, qE, qF]
    refine call_d rfl rfl hkn ?_
    simp only [RN, qA, qB, qC, qD, qE, qF]
  ·have c1 : ((A : Int) == B) = false := beq_eq_false_iff_ne.2 hab
   have c2 : ((A : Int) != B) = true := by rw [bne, c1]; rfl
   have f3 : (k == 1) = false := beq_eq_false_iff_ne.2 hk1
   simp only [n0, q1, q2, q3, c1, c2, f3, RN, qA, qB, qC, qD, qE, qF]
   refine call_d rfl rfl h4 ?_
   simp only [RN, qA, qB, qC, qD, qE, qF]
   refine call_d rfl rfl h5 ?_
   simp only [g1, g2, RN, qA, qB, qC, qD, qE, qF]
   refine call_d rfl rfl hx3 ?_
   by_cases b1 : min (A : Int) B < i
   ·have e0 : (k == 0) = true := beq_iff_eq.2 (hk0 (.inl b1))
    simp only [minmax_m, minmax_M, b1, y0, g3, e0, RN, qA, qB, qC, qD, qE, qF]
    refine call_d rfl rfl hkn ?_
    simp only [RN, qA, qB, qC, qD, qE, qF]
   by_cases b2 : min (A : Int) B = i
   ·have e2 : (min (A : Int) B == i) = true := beq_iff_eq.2 b2
    by_cases b3 : max (A : Int) B < j
    ·have e0 : (k == 0) = true := beq_iff_eq.2 (hk0 (.inr ⟨b2, b3⟩))
     simp only [minmax_m, minmax_M, b1, e2, b3, y0, g3, e0, RN, qA, qB, qC, qD, qE, qF]
     refine call_d rfl rfl hkn ?_
     simp only [RN, qA, qB, qC, qD, qE, qF]
    ·simp only [minmax_m, minmax_M, b1, e2, b3, y0, g3, RN, qA, qB, qC, qD, qE, qF]
     refine call_d rfl rfl hkn ?_
     simp only [RN, qA, qB, qC, qD, qE, qF]
   ·have e2 : (min (A : Int) B == i) = false := beq_eq_false_iff_ne.2 b2
    simp only [minmax_m, minmax_M, b1, e2, y0, g3, RN, qA, qB, qC, qD, qE, qF]
    refine call_d rfl rfl hkn ?_
    simp only [RN, qA, qB, qC, qD, qE, qF]
end Go.Tel
