/-
  Part 2 of the proof of a law of plates, the law itself: an abstract machine over the model, contracts of functions, plain laws.
  Conditions: none.
-/
import Derived.Test.YtpjjdinlflfgkaaGreatDoorPlateSparesL01
set_option linter.all false
namespace Go.Tel
theorem minmax_M {a b : Int} : (if b > a then b else a) = max a b := by omega
end Go.Tel
open Nat renaming reduceBEq → qA, reduceAdd → qB, reduceSub → qC, reduceEqDiff → qD, reduceLT → qE, reduceLeDiff → qF
namespace Go.Tel
open Go.Am
theorem cellsEq_pt (x y : Pt) : cellsEq [1, 1] [.int .i64 x.x, .int .i64 x.y] [.int .i64 y.x, .int .i64 y.y] = some (decide (x = y)) := by
 obtain ⟨a, b⟩ := x
 obtain ⟨c, d⟩ := y
 by_cases h1 : a = c <;> by_cases h2 : b = d <;> simp [cellsEq, h1, h2]
theorem cellsEq_ms (x y : Ms) : cellsEq [1, 1] [.int .i64 x.a, .int .i64 x.b] [.int .i64 y.a, .int .i64 y.b] = some (decide (x = y)) := by
 obtain ⟨a, b⟩ := x
 obtain ⟨c, d⟩ := y
 by_cases h1 : a = c <;> by_cases h2 : b = d <;> simp [cellsEq, h1, h2]
set_option maxRecDepth 10000 in
set_option maxHeartbeats 4000000 in
theorem rPiece_c (p : Piece) (hc : p.cs.length ≤ 1000) (hw : p.ws.length ≤ 1000) (hm : p.ms.length ≤ 1000) : Pure C F.ref_Piece [p.dv] (.d (.bool p.ok)) [] := by
 refine pure_of_pwp_d mixed rfl ok_ref_Piece ?_
 simp only [pc_ref_Piece, rs_ref_Piece, dv_Piece, RN, qA, qB, qC, qD, qE, qF]
 by_cases hh : p.headOk = true
 case neg =>
  have hok : p.ok = false := by simp [Piece.ok, hh]
  rw [hok]
  repeat' first
   | (refine call_d rfl rfl (rin_c _ _ _) ?_; try simp only [RN, qA, qB, qC, qD, qE, qF])
   | (refine guard_split (by rfl) (fun hB => ?_) (fun hB => ?_) <;> simp only [hB, RN, qA, qB, qC, qD, qE, qF])
   | (refine cond_split (by rfl) (fun hB => ?_) (fun hB => ?_) <;> simp only [hB, RN, qA, qB, qC, qD, qE, qF])
  all_goals (first | rfl | (exfalso; simp_all [Piece.headOk]; done))
 have hh' := hh
 simp only [Piece.headOk, Bool.and_eq_true] at hh'
 obtain ⟨⟨⟨⟨a1, a2⟩, a3⟩, a4⟩, a5⟩ := hh'
 refine call_d rfl rfl (rin_c _ _ _) ?_
 simp only [a1, RN, qA, qB, qC, qD, qE, qF]
 refine call_d rfl rfl (rin_c _ _ _) ?_
 simp only [a2, RN, qA, qB, qC, qD, qE, qF]
 refine call_d rfl rfl (rin_c _ _ _) ?_
 simp only [a3, RN, qA, qB, qC, qD, qE, qF]
 refine call_d rfl rfl (rin_c _ _ _) ?_
 simp only [a4, RN, qA, qB, qC, qD, qE, qF]
 refine call_d rfl rfl (rin_c _ _ _) ?_
 simp only [a5, List.length_map, RN, qA, qB, qC, qD, qE, qF]
 refine call_d rfl rfl (rin_c _ _ _) ?_
 by_cases l1 : inR p.cs.length 1 6 = true
 case neg =>
  have l1' : inR p.cs.length 1 6 = false := by simpa using l1
  simp only [l1', RN, qA, qB, qC, qD, qE, qF]
  simp [Piece.ok, Piece.lensOk, l1']
 by_cases l2 : p.ws.length ≤ 8
 case neg =>
  have b2 : (p.ws.length : Int) > 8 := by omega
  simp only [l1, b2, List.length_map, RN, qA, qB, qC, qD, qE, qF]
  simp [Piece.ok, Piece.lensOk, l1, b2]
 have b2 : ¬ (p.ws.length : Int) > 8 := by omega
 by_cases l3 : p.ms.length ≤ 10
 case neg =>
  have b3 : (p.ms.length : Int) > 10 := by omega
  simp only [l1, b2, b3, List.length_map, RN, qA, qB, qC, qD, qE, qF]
  simp [Piece.ok, Piece.lensOk, l1, b2, b3]
 have b3 : ¬ (p.ms.length : Int) > 10 := by omega
 simp only [l1, b2, b3, List.length_map, RN, qA, qB, qC, qD, qE, qF]
 have hlens : p.lensOk = true := by simp [Piece.lensOk, l1, b2, b3]
 have hok : p.ok = (ptsOk p.w p.h [] p.cs && mssOk p.ws.length [] p.ms && p.ws.all (whOk p.cs.length)) := by simp [Piece.ok, hh, hlens]
 rw [hok]
 refine pwp_range p.cs.length (fun i (_ : Unit) => ⟨[(1, .d (.cptr p.cells)), (3, .d (.int .i64 i))], ⟨[some (p.cells.map .d)], [0], []⟩⟩)
  (fun i _ => ptsOk p.w p.h [] p.cs = ptsOk p.w p.h (p.cs.take i) (p.cs.drop i)) 0 () (Nat.zero_le _) rfl (by simp) (fun i _ g1 hix => ?_) (fun _ hix => ?_)
 ·obtain ⟨g2, g3, g6⟩ := rng g1 (by omega)
  rw [drop_cons g1, ptsOk, ← take_snoc g1] at hix
  simp only [Piece.cells, g2, g3, g1, getD_map, Int.toNat_natCast, List.length_map, dv_Pt, List.not_mem_nil, RN, qA, qB, qC, qD, qE, qF]
  have hci : p.cs.getD i default = p.cs.getD i default := rfl
  generalize hcg : p.cs.getD i default = c at *
  refine call_d rfl rfl (rin_c _ _ _) ?_
  by_cases x1 : inR c.x 0 p.w = true
  case neg =>
   have x1' : inR c.x 0 p.w = false := by simpa using x1
   simp only [x1', RN, qA, qB, qC, qD, qE, qF]
   simp [hix, x1']
  simp only [x1, RN, qA, qB, qC, qD, qE, qF]
  refine call_d rfl rfl (rin_c _ _ _) ?_
  by_cases x2 : inR c.y 0 p.h = true
  case neg =>
   have x2' : inR c.y 0 p.h = false := by simpa using x2
   simp only [x2', RN, qA, qB, qC, qD, qE, qF]
   simp [hix, x2']
  simp only [x2, RN, qA, qB, qC, qD, qE, qF]
  rw [x1, x2, Bool.true_and, Bool.true_and] at hix
  refine pwp_range i (fun k (_ : Unit) => ⟨[(1, .d (.cptr p.cells)), (3, .d (.int .i64 i)), (4, .d (.cptr [.int .i64 c.x, .int .i64 c.y])), (5, .d (.int .i64 k))], ⟨[some (p.cells.map .d), some [.d (.int .i64 c.x), .d (.int .i64 c.y)]], [1, 0], []⟩⟩)
   (fun k _ => c ∉ p.cs.take k) 0 () (Nat.zero_le _) rfl (by simp) (fun k _ e1 hk => ?_) (fun _ hk => ?_)
  ·obtain ⟨e2, e3, e6⟩ := rng e1 (by omega)
   have e1' : k < p.cs.length := by omega
   simp only [Piece.cells, e2, e3, e1', getD_map, Int.toNat_natCast, List.length_map, dv_Pt, RN, qA, qB, qC, qD, qE, qF]
   rw [ev_binA (cellsEq_pt _ _)]
   by_cases he : p.cs.getD k default = c
   ·rw [decide_eq_true he]
    have hx : (true != false) = true := rfl
    have hmem : c ∈ p.cs.take i := by
     rw [← he, List.getD_eq_getElem?_getD, List.getElem?_eq_getElem e1']
     exact List.mem_take_iff_getElem.2 ⟨k, by omega, rfl⟩
    simp only [hx, RN, qA, qB, qC, qD, qE, qF]
    simp [hix, hmem]
   ·rw [decide_eq_false he]
    have hx : (false != false) = false := rfl
    simp only [hx, e6, RN, qA, qB, qC, qD, qE, qF]
    exact up_same () e1 rfl (by rw [take_snoc e1']; simp only [List.mem_append, List.mem_singleton, not_or]; exact ⟨hk, fun h => he h.symm⟩) (by simp) (by simp) rfl rfl
  ·have hcn : (p.cs.take i).contains c = false := by simpa using hk
   rw [hcn, Bool.not_false, Bool.true_and] at hix
   simp only [Int.lt_irrefl, g6, RN, qA, qB, qC, qD, qE, qF]
   exact up_take 1 0 () g1 rfl hix (by simp) (by simp) rfl rfl
 ·rw [List.drop_length, ptsOk] at hix
  simp only [Piece.cells, Int.lt_irrefl, List.length_map, RN, qA, qB, qC, qD, qE, qF]
  rw [hix, Bool.true_and]
  refine pwp_range p.ws.length (fun i (_ : Unit) => ⟨[(1, .d (.cptr p.cells)), (6, .d (.int .i64 i))], ⟨[some (p.cells.map .d)], [0], []⟩⟩)
   (fun i _ => p.ws.all (whOk p.cs.length) = (p.ws.drop i).all (whOk p.cs.length)) 0 () (Nat.zero_le _) rfl (by simp) (fun i _ g1 hjx => ?_) (fun _ hjx => ?_)
  ·obtain ⟨g2, g3, g6⟩ := rng g1 (by omega)
   have wl : IntKind.i64.wrap ((p.cs.length : Int) - 1) = (p.cs.length : Int) - 1 := w64_in (by omega)
   rw [drop_cons g1, List.all_cons] at hjx
   simp only [Piece.cells, g2, g3, g1, getD_map, Int.toNat_natCast, List.length_map, dv_Wh, List.not_mem_nil, wl, RN, qA, qB, qC, qD, qE, qF]
   generalize p.ws.getD i default = w at *
   refine call_d rfl rfl (rin_c _ _ _) ?_
   by_cases x1 : inR w.centre 0 ((p.cs.length : Int) - 1) = true
   case neg =>
    have x1' := eq_false_of_ne_true x1
    simp only [x1', RN, qA, qB, qC, qD, qE, qF]
    simp [hjx, whOk, x1']
   simp only [x1, RN, qA, qB, qC, qD, qE, qF]
   refine call_d rfl rfl (rin_c _ _ _) ?_
   by_cases x2 : inR w.sleeve 0 2 = true
   case neg =>
    have x2' := eq_false_of_ne_true x2
    simp only [x2', RN, qA, qB, qC, qD, qE, qF]
    simp [hjx, whOk, x2']
   simp only [x2, RN, qA, qB, qC, qD, qE, qF]
   refine call_d rfl rfl (rin_c _ _ _) ?_
   by_cases x3 : inR w.layer 0 5 = true
   case neg =>
    have x3' := eq_false_of_ne_true x3
    simp only [x3', RN, qA, qB, qC, qD, qE, qF]
    simp [hjx, whOk, x3']
   simp only [x3, RN, qA, qB, qC, qD, qE, qF]
   refine call_d rfl rfl (rin_c _ _ _) ?_
   by_cases x4 : inR w.teeth 4 50 = true
   case neg =>
    have x4' := eq_false_of_ne_true x4
    simp only [x4', RN, qA, qB, qC, qD, qE, qF]
    simp [hjx, whOk, x4']
   simp only [x4, g6, RN, qA, qB, qC, qD, qE, qF]
   exact up_take 1 0 () g1 rfl (by rw [hjx]; simp [whOk, x1, x2, x3, x4]) (by simp) (by simp) rfl rfl
  rw [List.drop_length, List.all_nil] at hjx
  rw [hjx, Bool.and_true]
  simp only [Piece.cells, Int.lt_irrefl, List.length_map, RN, qA, qB, qC, qD, qE, qF]
  refine pwp_range p.ms.length (fun i (_ : Unit) => ⟨[(1, .d (.cptr p.cells)), (8, .d (.int .i64 i))], ⟨[some (p.cells.map .d)], [0], []⟩⟩)
   (fun i _ => mssOk p.ws.length [] p.ms = mssOk p.ws.length (p.ms.take i) (p.ms.drop i)) 0 () (Nat.zero_le _) rfl (by simp) (fun i _ g1 hkx => ?_) (fun _ hkx => ?_)
  ·obtain ⟨g2, g3, g6⟩ := rng g1 (by omega)
   have hwc : ∀ n, Pure C F.ref_Wheel [.agg p.cells, .int .i64 n] (.d (.bool (inR n 0 (p.ws.length - 1)))) [] := fun n => by
    have := rWheel_c p n (by omega)
    rw [dv_Piece] at this
    exact this
   rw [drop_cons g1, mssOk, ← take_snoc g1] at hkx
   simp only [Piece.cells, g2, g3, g1, getD_map, Int.toNat_natCast, List.length_map, dv_Ms, List.not_mem_nil, RN, qA, qB, qC, qD, qE, qF]
   generalize p.ms.getD i default = c at *
   refine call_d rfl rfl (hwc _) ?_
   by_cases x1 : inR c.a 0 ((p.ws.length : Int) - 1) = true
   case neg =>
    have x1' := eq_false_of_ne_true x1
    simp only [x1', RN, qA, qB, qC, qD, qE, qF]
    simp [hkx, x1']
   simp only [x1, RN, qA, qB, qC, qD, qE, qF]
   refine call_d rfl rfl (hwc _) ?_
   by_cases x2 : inR c.b 0 ((p.ws.length : Int) - 1) = true
   case neg =>
    have x2' := eq_false_of_ne_true x2
    simp only [x2', RN, qA, qB, qC, qD, qE, qF]
    simp [hkx, x2']
   by_cases x3 : c.a ≥ c.b
   case pos =>
    simp only [x2, x3, RN, qA, qB, qC, qD, qE, qF]
    rw [hkx, decide_eq_true x3]
    simp
   simp only [x2, x3, RN, qA, qB, qC, qD, qE, qF]
   rw [x1, x2, decide_eq_false x3, Bool.not_false, Bool.true_and, Bool.true_and, Bool.true_and] at hkx
   refine pwp_range i (fun k (_ : Unit) => ⟨[(1, .d (.cptr p.cells)), (8, .d (.int .i64 i)), (9, .d (.cptr [.int .i64 c.a, .int .i64 c.b])), (10, .d (.int .i64 k))], ⟨[some (p.cells.map .d), some [.d (.int .i64 c.a), .d (.int .i64 c.b)]], [1, 0], []⟩⟩)
    (fun k _ => c ∉ p.ms.take k) 0 () (Nat.zero_le _) rfl (by simp) (fun k _ e1 hk => ?_) (fun _ hk => ?_)
   ·obtain ⟨e2, e3, e6⟩ := rng e1 (by omega)
    have e1' : k < p.ms.length := by omega
    simp only [Piece.cells, e2, e3, e1', getD_map, Int.toNat_natCast, List.length_map, dv_Ms, RN, qA, qB, qC, qD, qE, qF]
    rw [ev_binA (cellsEq_ms _ _)]
    by_cases he : p.ms.getD k default = c
    ·rw [decide_eq_true he]
     have hx : (true != false) = true := rfl
     have hmem : c ∈ p.ms.take i := by
      rw [← he, List.getD_eq_getElem?_getD, List.getElem?_eq_getElem e1']
      exact List.mem_take_iff_getElem.2 ⟨k, by omega, rfl⟩
     simp only [hx, RN, qA, qB, qC, qD, qE, qF]
     simp [hkx, hmem]
    ·rw [decide_eq_false he]
     have hx : (false != false) = false := rfl
     simp only [hx, e6, RN, qA, qB, qC, qD, qE, qF]
     exact up_same () e1 rfl (by rw [take_snoc e1']; simp only [List.mem_append, List.mem_singleton, not_or]; exact ⟨hk, fun h => he h.symm⟩) (by simp) (by simp) rfl rfl
   ·have hcn : (p.ms.take i).contains c = false := by simpa using hk
    rw [hcn, Bool.not_false, Bool.true_and] at hkx
    simp only [Int.lt_irrefl, g6, RN, qA, qB, qC, qD, qE, qF]
    exact up_take 1 0 () g1 rfl hkx (by simp) (by simp) rfl rfl
  ·rw [List.drop_length, mssOk] at hkx
   simp only [Piece.cells, Int.lt_irrefl, List.length_map, RN, qA, qB, qC, qD, qE, qF]
   rw [hkx]
end Go.Tel
open Nat renaming reduceBEq → qA, reduceAdd → qB, reduceSub → qC, reduceEqDiff → qD, reduceLT → qE, reduceLeDiff → qF
namespace Go.Tel
open Go.Am
def Piece.rmeshed (p : Piece) (a b : Int) : Bool := p.ms.any fun m => (m.a == a && m.b == b) || (m.a == b && m.b == a)
def rfold (o : Wh) : List Wh → Int × Int → Int × Int
 | [], r => r
 | w :: l, r => rfold o l (if w.centre == o.centre && w.sleeve == o.sleeve then (min r.1 w.layer, max r.2 w.layer) else r)
def Piece.rwithin (p : Piece) (i o : Int) : Bool :=
 decide ((p.wh i).sleeve < (p.wh o).sleeve) && decide ((p.wh i).layer > (rfold (p.wh o) p.ws ((p.wh o).layer, (p.wh o).layer)).1) && decide ((p.wh i).layer < (rfold (p.wh o) p.ws ((p.wh o).layer, (p.wh o).layer)).2)
def Piece.rnear (p : Piece) (a b n : Int) : Bool := decide (p.far a b < n * n)
def Piece.rmeets (p : Piece) (a b : Int) : Int :=
 if a = b then (if p.edged a then 1 else 0)
 else if p.rmeshed a b && (!p.level a b || p.centred a b || p.rnear a b (p.sum a b) || decide (p.far a b > (p.sum a b + p.pl) * (p.sum a b + p.pl))) then 2
 else if !p.rmeshed a b && p.level a b && !p.centred a b && p.rnear a b (p.sum a b + p.ga) then 3
 else if p.centred a b && p.level a b then 4
 else if p.centred a b && (p.rwithin a b || p.rwithin b a) then 5
 else if !p.centred a b && (decide ((p.wh a).layer ≤ (p.wh b).layer) && p.rnear a b ((p.wh a).teeth + p.po) || decide ((p.wh b).layer ≤ (p.wh a).layer) && p.rnear a b ((p.wh b).teeth + p.po)) then 6
 else 0
def ptFar (a b : Pt) : Int := (a.x - b.x) * (a.x - b.x) + (a.y - b.y) * (a.y - b.y)
def Pt.inB (a : Pt) : Prop := 0 ≤ a.x ∧ a.x ≤ 1000 ∧ 0 ≤ a.y ∧ a.y ≤ 1000
set_option maxRecDepth 10000 in
theorem rFar_c (a b : Pt) (ha : a.inB) (hb : b.inB) : Pure C F.ref_Far [a.dv, b.dv] (.d (.int .i64 (ptFar a b))) [] := by
 obtain ⟨a1, a2, a3, a4⟩ := ha
 obtain ⟨b1, b2, b3, b4⟩ := hb
 have x := sq_bd (n := a.x - b.x) (k := 1000) (by omega)
 have y := sq_bd (n := a.y - b.y) (k := 1000) (by omega)
 have w1 : IntKind.i64.wrap (a.x - b.x) = a.x - b.x := w64_in (by omega)
 have w2 : IntKind.i64.wrap (a.y - b.y) = a.y - b.y := w64_in (by omega)
 have w3 : IntKind.i64.wrap ((a.x - b.x) * (a.x - b.x)) = (a.x - b.x) * (a.x - b.x) := w64_in (by omega)
 have w4 : IntKind.i64.wrap ((a.y - b.y) * (a.y - b.y)) = (a.y - b.y) * (a.y - b.y) := w64_in (by omega)
 have w5 : IntKind.i64.wrap ((a.x - b.x) * (a.x - b.x) + (a.y - b.y) * (a.y - b.y)) = (a.x - b.x) * (a.x - b.x) + (a.y - b.y) * (a.y - b.y) := w64_in (by omega)
 refine pure_of_pwp_d mixed rfl ok_ref_Far ?_
 simp only [pc_ref_Far, rs_ref_Far, dv_Pt, w1, w2, w3, w4, w5, RN, qA, qB, qC, qD, qE, qF]
 rw [ptFar]
set_option maxRecDepth 10000 in
theorem rfar_c (p : Piece) (hg : p.good) (a b : Int) (ha : p.isW a) (hb : p.isW b) : Pure C F.ref_far [p.dv, .int .i64 a, .int .i64 b] (.d (.int .i64 (p.far a b))) [] := by
 have xa := good_pt hg ha
 have xb := good_pt hg hb
 obtain ⟨⟨a3, a4⟩, _⟩ := good_wh hg ha
 obtain ⟨⟨b3, b4⟩, _⟩ := good_wh hg hb
 obtain ⟨a1, a2⟩ := ha
 obtain ⟨b1, b2⟩ := hb
 have hf := rFar_c (p.cs.getD (p.ws.getD a.toNat default).centre.toNat default) (p.cs.getD (p.ws.getD b.toNat default).centre.toNat default) xa xb
 rw [dv_Pt, dv_Pt] at hf
 refine pure_of_pwp_d mixed rfl ok_ref_far ?_
 simp only [pc_ref_far, rs_ref_far, dv_Piece, dv_Pt, dv_Wh, getD_map, a1, a2, a3, a4, b1, b2, b3, b4, List.length_map, RN, qA, qB, qC, qD, qE, qF]
 refine call_d rfl rfl hf ?_
 simp only [Piece.far, Piece.pt, Piece.wh, sq, ptFar]
set_option maxRecDepth 10000 in
theorem rnear_c (p : Piece) (hg : p.good) (a b : Int) (ha : p.isW a) (hb : p.isW b) (n : Int) (hn : -10000 ≤ n ∧ n ≤ 10000) : Pure C F.ref_near [p.dv, .int .i64 a, .int .i64 b, .int .i64 n] (.d (.bool (p.rnear a b n))) [] := by
 have x := sq_bd (n := n) (k := 10000) (by omega)
 have w1 : IntKind.i64.wrap (n * n) = n * n := w64_in (by omega)
 have hf := rfar_c p hg a b ha hb
 rw [dv_Piece] at hf
 refine pure_of_pwp_d mixed rfl ok_ref_near ?_
 simp only [pc_ref_near, rs_ref_near, dv_Piece, RN, qA, qB, qC, qD, qE, qF]
 refine call_d rfl rfl hf ?_
 simp only [w1, RN, qA, qB, qC, qD, qE, qF]
 rw [Piece.rnear]
set_option maxRecDepth 10000 in
theorem rMeshed_c (p : Piece) (a b : Int) (hl : p.ms.length ≤ 1000) : Pure C F.ref_Meshed [p.dv, .int .i64 a, .int .i64 b] (.d (.bool (p.rmeshed a b))) [] := by
 refine pure_of_pwp_d mixed rfl ok_ref_Meshed ?_
 simp only [pc_ref_Meshed, rs_ref_Meshed, dv_Piece, RN, qA, qB, qC, qD, qE, qF]
 refine pwp_range p.ms.length (fun i (_ : Unit) => ⟨[(1, .d (.int .i64 a)), (2, .d (.int .i64 b)), (3, .d (.cptr p.cells)), (7, .d (.int .i64 i))], ⟨[some (p.cells.map .d)], [0], []⟩⟩)
  (fun i _ => p.rmeshed a b = ((p.ms.drop i).any fun m => (m.a == a && m.b == b) || (m.a == b && m.b == a))) 0 () (Nat.zero_le _) rfl rfl (fun i _ g1 hix => ?_) (fun _ hix => ?_)
 ·obtain ⟨g2, g3, g6⟩ := rng g1 (by omega)
  rw [drop_cons g1, List.any_cons] at hix
  simp only [Piece.cells, g2, g3, g1, getD_map, Int.toNat_natCast, List.length_map, dv_Ms, List.not_mem_nil, RN, qA, qB, qC, qD, qE, qF]
  generalize p.ms.getD i default = m at *
  have key : ∀ t : Bool, t = ((m.a == a && m.b == b) || (m.a == b && m.b == a)) → p.rmeshed a b = (t || ((p.ms.drop (i + 1)).any fun m => (m.a == a && m.b == b) || (m.a == b && m.b == a))) := fun t ht => by rw [hix, ht]
  clear hix
  repeat' first
   | (refine guard_split (by rfl) (fun hB => ?_) (fun hB => ?_) <;> simp only [hB, List.not_mem_nil, g6, RN, qA, qB, qC, qD, qE, qF])
   | (refine cond_split (by rfl) (fun hB => ?_) (fun hB => ?_) <;> simp only [hB, List.not_mem_nil, g6, RN, qA, qB, qC, qD, qE, qF])
  all_goals first
   | (rw [key true (by simp_all)]; rfl)
   | (exact up_take 1 0 () g1 rfl (by rw [key false (by simp_all), Bool.false_or]) (by simp) (by simp) rfl rfl)
 ·rw [List.drop_length, List.any_nil] at hix
  simp only [Piece.cells, Int.lt_irrefl, List.length_map, RN, qA, qB, qC, qD, qE, qF]
  rw [hix]
def Wh.cells (w : Wh) : List DV := [.int .i64 w.centre, .int .i64 w.sleeve, .int .i64 w.layer, .int .i64 w.teeth]
set_option maxRecDepth 10000 in
set_option maxHeartbeats 1000000 in
theorem rwithin_c (p : Piece) (hg : p.good) (a b : Int) (ha : p.isW a) (hb : p.isW b) : Pure C F.ref_within [p.dv, .int .i64 a, .int .i64 b] (.d (.bool (p.rwithin a b))) [] := by
 have hlw := hg.lw
 have gb := good_wh hg hb
 obtain ⟨a1, a2⟩ := id ha
 obtain ⟨b1, b2⟩ := id hb
 refine pure_of_pwp_d mixed rfl ok_ref_within ?_
 simp only [pc_ref_within, rs_ref_within, dv_Piece, dv_Wh, getD_map, a1, a2, b1, b2, List.length_map, List.not_mem_nil, RN, qA, qB, qC, qD, qE, qF]
 refine pwp_range p.ws.length (fun i (r : Int × Int) => ⟨[(3, .d (.cptr p.cells)), (7, .d (.cptr (p.wh a).cells)), (8, .d (.cptr (p.wh b).cells)), (9, .d (.int .i64 r.1)), (10, .d (.int .i64 r.2)), (11, .d (.int .i64 i))],
   ⟨[some (p.cells.map .d), some ((p.wh a).cells.map .d), some ((p.wh b).cells.map .d)], [2, 1, 0], []⟩⟩)
  (fun i r => rfold (p.wh b) p.ws ((p.wh b).layer, (p.wh b).layer) = rfold (p.wh b) (p.ws.drop i) r) 0 ((p.wh b).layer, (p.wh b).layer) (Nat.zero_le _) rfl rfl (fun i r g1 hix => ?_) (fun r hix => ?_)
 ·obtain ⟨g2, g3, g6⟩ := rng g1 (by omega)
  rw [drop_cons g1, rfold] at hix
  simp only [Piece.cells, Wh.cells, g2, g3, g1, getD_map, Int.toNat_natCast, List.length_map, dv_Wh, List.not_mem_nil, RN, qA, qB, qC, qD, qE, qF]
  generalize p.ws.getD i default = w at *
  by_cases h1 : w.centre = (p.wh b).centre
  ·have e1 : (w.centre == (p.wh b).centre) = true := beq_iff_eq.2 h1
   by_cases h2 : w.sleeve = (p.wh b).sleeve
   ·have e2 : (w.sleeve == (p.wh b).sleeve) = true := beq_iff_eq.2 h2
    rw [e1, e2, Bool.and_self, if_pos rfl] at hix
    simp only [e1, e2, g6, minmax_m, minmax_M, List.not_mem_nil, RN, qA, qB, qC, qD, qE, qF]
    exact up_take 3 0 (min r.1 w.layer, max r.2 w.layer) g1 rfl hix (by simp) (by simp) rfl rfl
   ·have e2 : (w.sleeve == (p.wh b).sleeve) = false := beq_eq_false_iff_ne.2 h2
    rw [e1, e2, Bool.and_false] at hix
    rw [if_neg (by decide)] at hix
    simp only [e1, e2, g6, List.not_mem_nil, RN, qA, qB, qC, qD, qE, qF]
    exact up_take 3 0 r g1 rfl hix (by simp) (by simp) rfl rfl
  ·have e1 : (w.centre == (p.wh b).centre) = false := beq_eq_false_iff_ne.2 h1
   rw [e1, Bool.false_and] at hix
   rw [if_neg (by decide)] at hix
   simp only [e1, g6, List.not_mem_nil, RN, qA, qB, qC, qD, qE, qF]
   exact up_take 3 0 r g1 rfl hix (by simp) (by simp) rfl rfl
 ·rw [List.drop_length, rfold] at hix
  simp only [Piece.cells, Wh.cells, Int.lt_irrefl, List.length_map, List.not_mem_nil, RN, qA, qB, qC, qD, qE, qF]
  repeat' first
   | (refine guard_split (by rfl) (fun hB => ?_) (fun hB => ?_) <;> simp only [hB, List.not_mem_nil, RN, qA, qB, qC, qD, qE, qF])
   | (refine cond_split (by rfl) (fun hB => ?_) (fun hB => ?_) <;> simp only [hB, List.not_mem_nil, RN, qA, qB, qC, qD, qE, qF])
  all_goals (clear gb; simp only [Piece.rwithin, hix]; simp_all <;> (intros; omega))
set_option maxRecDepth 10000 in
set_option maxHeartbeats 4000000 in
theorem rMeets_c (p : Piece) (hg : p.good) (hl : p.ms.length ≤ 1000) (a b : Int) (ha : p.isW a) (hb : p.isW b) : Pure C F.ref_Meets [p.dv, .int .i64 a, .int .i64 b] (.d (.int .i64 (p.rmeets a b))) [] := by
 have xa := good_pt hg ha
 obtain ⟨⟨a3, a4⟩, t1, t2, _⟩ := good_wh hg ha
 obtain ⟨⟨b3, b4⟩, t3, t4, _⟩ := good_wh hg hb
 obtain ⟨a1, a2⟩ := id ha
 obtain ⟨b1, b2⟩ := id hb
 have hpl := hg.pl
 have hga := hg.ga
 have hpo := hg.po
 have hm := rMeshed_c p a b hl
 have hf := rfar_c p hg a b ha hb
 have hn := rnear_c p hg a b ha hb
 have h1 := rwithin_c p hg a b ha hb
 have h2 := rwithin_c p hg b a hb ha
 rw [dv_Piece] at hm hf hn h1 h2
 refine pure_of_pwp_d mixed rfl ok_ref_Meets ?_
 simp only [pc_ref_Meets, rs_ref_Meets, dv_Piece, dv_Wh, dv_Pt, getD_map, a1, a2, b1, b2, a3, a4, List.length_map, List.not_mem_nil, RN, qA, qB, qC, qD, qE, qF]
 have w1 : IntKind.i64.wrap ((p.ws.getD a.toNat default).teeth + (p.ws.getD b.toNat default).teeth) = p.sum a b := w64_in (by omega)
 have sb : 0 ≤ p.sum a b ∧ p.sum a b ≤ 2000 := by simp only [Piece.sum, Piece.wh]; omega
 have w2 : IntKind.i64.wrap (p.sum a b + p.pl) = p.sum a b + p.pl := w64_in (by omega)
 have w3 : IntKind.i64.wrap (p.sum a b + p.ga) = p.sum a b + p.ga := w64_in (by omega)
 have w4 : IntKind.i64.wrap ((p.ws.getD a.toNat default).teeth + p.po) = (p.ws.getD a.toNat default).teeth + p.po := w64_in (by omega)
 have w5 : IntKind.i64.wrap ((p.ws.getD b.toNat default).teeth + p.po) = (p.ws.getD b.toNat default).teeth + p.po := w64_in (by omega)
 have x := sq_bd (n := p.sum a b + p.pl) (k := 10000) (by omega)
 have w6 : IntKind.i64.wrap ((p.sum a b + p.pl) * (p.sum a b + p.pl)) = (p.sum a b + p.pl) * (p.sum a b + p.pl) := w64_in (by omega)
 have w7 : IntKind.i64.wrap ((p.cs.getD (p.ws.getD a.toNat default).centre.toNat default).x + (p.ws.getD a.toNat default).teeth) = (p.cs.getD (p.ws.getD a.toNat default).centre.toNat default).x + (p.ws.getD a.toNat default).teeth := w64_in (by omega)
 have w8 : IntKind.i64.wrap ((p.cs.getD (p.ws.getD a.toNat default).centre.toNat default).y + (p.ws.getD a.toNat default).teeth) = (p.cs.getD (p.ws.getD a.toNat default).centre.toNat default).y + (p.ws.getD a.toNat default).teeth := w64_in (by omega)
 by_cases hab : a = b
 ·have e1 : (a == b) = true := beq_iff_eq.2 hab
  simp only [e1, dv_Wh, dv_Pt, getD_map, a3, a4, List.length_map, List.not_mem_nil, RN, qA, qB, qC, qD, qE, qF]
  repeat' first
   | (refine guard_split (by rfl) (fun hB => ?_) (fun hB => ?_) <;> simp only [hB, w7, w8, RN, qA, qB, qC, qD, qE, qF])
   | (refine cond_split (by rfl) (fun hB => ?_) (fun hB => ?_) <;> simp only [hB, w7, w8, RN, qA, qB, qC, qD, qE, qF])
  all_goals (rw [Piece.rmeets, if_pos hab]; simp_all [Piece.edged, Piece.pt, Piece.wh])
 have e1 : (a == b) = false := beq_eq_false_iff_ne.2 hab
 simp only [e1, w1, RN, qA, qB, qC, qD, qE, qF]
 repeat' first
  | (refine call_d rfl rfl (hm) ?_; try simp only [w1, w2, w3, w4, w5, w6, RN, qA, qB, qC, qD, qE, qF])
  | (refine call_d rfl rfl (hf) ?_; try simp only [w1, w2, w3, w4, w5, w6, RN, qA, qB, qC, qD, qE, qF])
  | (refine call_d rfl rfl (hn _ (by omega)) ?_; try simp only [w1, w2, w3, w4, w5, w6, RN, qA, qB, qC, qD, qE, qF])
  | (refine call_d rfl rfl (h1) ?_; try simp only [w1, w2, w3, w4, w5, w6, RN, qA, qB, qC, qD, qE, qF])
  | (refine call_d rfl rfl (h2) ?_; try simp only [w1, w2, w3, w4, w5, w6, RN, qA, qB, qC, qD, qE, qF])
  | (refine guard_split (by rfl) (fun hB => ?_) (fun hB => ?_) <;> simp only [hB, w1, w2, w3, w4, w5, w6, RN, qA, qB, qC, qD, qE, qF])
  | (refine cond_split (by rfl) (fun hB => ?_) (fun hB => ?_) <;> simp only [hB, w1, w2, w3, w4, w5, w6, RN, qA, qB, qC, qD, qE, qF])
 all_goals clear hm hf hn h1 h2 w1 w2 w3 w4 w5 w6 w7 w8 x xa
 all_goals (rw [Piece.rmeets, if_neg hab]; simp_all [Piece.level, Piece.centred, Piece.wh] <;> (intros; omega))
end Go.Tel
namespace Go.Tel
open Go.Am
theorem mssOk_lt {n : Int} : ∀ {pre ms : List Ms}, mssOk n pre ms = true → ∀ m ∈ ms, 0 ≤ m.a ∧ m.a < m.b ∧ m.b ≤ n - 1
 | _, [], _, m, h => by cases h
 | pre, x :: ms, h, m, hm => by
  simp only [mssOk, inR, Bool.and_eq_true, decide_eq_true_eq, Bool.not_eq_true', decide_eq_false_iff_not, ge_iff_le] at h
  rcases List.mem_cons.1 hm with rfl | hm
  ·omega
  ·exact mssOk_lt h.2 m hm
theorem ok_mss {p : Piece} (h : p.ok = true) : ∀ m ∈ p.ms, 0 ≤ m.a ∧ m.a < m.b ∧ m.b ≤ p.ws.length - 1 := by
 simp only [Piece.ok, Bool.and_eq_true] at h
 exact mssOk_lt h.1.2
theorem mesh_same {p : Piece} (h : ∀ m ∈ p.ms, m.a < m.b) (a b : Int) : p.mesh a b = p.rmeshed a b := by
 rw [Bool.eq_iff_iff, Piece.mesh, List.contains_iff_mem, Piece.rmeshed, List.any_eq_true]
 constructor
 ·intro hm
  refine ⟨_, hm, ?_⟩
  simp only [Bool.or_eq_true, Bool.and_eq_true, beq_iff_eq]
  omega
 ·rintro ⟨⟨x, y⟩, hm, he⟩
  have := h _ hm
  simp only [Bool.or_eq_true, Bool.and_eq_true, beq_iff_eq] at he this
  have e : (⟨min a b, max a b⟩ : Ms) = ⟨x, y⟩ := by
   rw [Ms.mk.injEq]; omega
  rw [e]; exact hm
theorem far_comm (p : Piece) (a b : Int) : p.far b a = p.far a b := by
 have e : ∀ x y : Int, sq (x - y) = sq (y - x) := fun x y => by
  rw [sq, sq, ← Int.neg_sub y x, Int.neg_mul_neg]
 rw [Piece.far, Piece.far, e (p.pt b).x, e (p.pt b).y]
end Go.Tel
open Nat renaming reduceBEq → qA, reduceAdd → qB, reduceSub → qC, reduceEqDiff → qD, reduceLT → qE, reduceLeDiff → qF
namespace Go.Tel
open Go.Am
theorem range_getD {n i : Nat} (h : i < n) : (List.range n).getD i default = i := by
 rw [List.getD_eq_getElem?_getD, List.getElem?_range h]; rfl
def Piece.rfltB (p : Piece) (a : Nat) (l : List Nat) : Option Flt := l.findSome? fun (b : Nat) => if p.rmeets a b = 0 then none else some ⟨a, b, p.rmeets a b⟩
def Piece.rfault (p : Piece) : Option Flt := (List.range p.ws.length).findSome? fun a => p.rfltB a ((List.range p.ws.length).drop a)
set_option maxRecDepth 10000 in
set_option maxHeartbeats 1000000 in
theorem rFault_c (p : Piece) (hg : p.good) (hm : p.ms.length ≤ 1000) : Pure C F.ref_Fault [p.dv] (.d ((p.rfault).getD default).dv) [] := by
 have hlw := hg.lw
 refine pure_of_pwp_d mixed rfl ok_ref_Fault ?_
 simp only [pc_ref_Fault, rs_ref_Fault, dv_Piece, List.not_mem_nil, RN, qA, qB, qC, qD, qE, qF]
 refine pwp_range p.ws.length (fun i (_ : Unit) => ⟨[(1, .d (.cptr p.cells)), (2, .ptr 1 0), (3, .d (.int .i64 i))], ⟨[some (p.cells.map .d), some [.d (.int .i64 0), .d (.int .i64 0), .d (.int .i64 0)]], [0], []⟩⟩)
  (fun i _ => p.rfault = ((List.range p.ws.length).drop i).findSome? fun a => p.rfltB a ((List.range p.ws.length).drop a)) 0 () (Nat.zero_le _) rfl rfl (fun i _ g1 hix => ?_) (fun _ hix => ?_)
 ·obtain ⟨g2, g3, g6⟩ := rng g1 (by omega)
  rw [drop_cons (by simpa using g1), range_getD g1, List.findSome?_cons] at hix
  simp only [Piece.cells, g2, List.length_map, RN, qA, qB, qC, qD, qE, qF]
  refine pwp_range p.ws.length (fun k (_ : Unit) => ⟨[(1, .d (.cptr p.cells)), (2, .ptr 1 0), (3, .d (.int .i64 i)), (4, .d (.int .i64 k))], ⟨[some (p.cells.map .d), some [.d (.int .i64 0), .d (.int .i64 0), .d (.int .i64 0)]], [0], []⟩⟩)
   (fun k _ => p.rfltB i ((List.range p.ws.length).drop i) = p.rfltB i ((List.range p.ws.length).drop k)) i () (by omega) rfl rfl (fun k _ f1 hkx => ?_) (fun _ hkx => ?_)
  ·obtain ⟨f2, f3, f6⟩ := rng f1 (by omega)
   rw [drop_cons (l := List.range p.ws.length) (i := k) (by simpa using f1), range_getD f1] at hkx
   have hwr := rMeets_c p hg hm i k ⟨g3, by simpa using g1⟩ ⟨f3, by simpa using f1⟩
   rw [dv_Piece] at hwr
   simp only [f2, Piece.cells, List.length_map, RN, qA, qB, qC, qD, qE, qF]
   refine call_d rfl rfl hwr ?_
   by_cases hz : p.rmeets i k = 0
   ·have hz1 : (p.rmeets i k != 0) = false := by rw [hz]; rfl
    have e : p.rfltB i (k :: (List.range p.ws.length).drop (k + 1)) = p.rfltB i ((List.range p.ws.length).drop (k + 1)) := by rw [Piece.rfltB, List.findSome?_cons, if_pos hz]; rfl
    rw [e] at hkx
    simp only [hz1, f6, RN, qA, qB, qC, qD, qE, qF]
    exact up_same () f1 rfl hkx (by simp) (by simp) rfl rfl
   ·have hz1 : (p.rmeets i k != 0) = true := bne_iff_ne.2 hz
    have e : p.rfltB i (k :: (List.range p.ws.length).drop (k + 1)) = some ⟨i, k, p.rmeets i k⟩ := by rw [Piece.rfltB, List.findSome?_cons, if_neg hz]
    rw [e] at hkx
    rw [hkx] at hix
    simp only [hz1, List.not_mem_nil, RN, qA, qB, qC, qD, qE, qF]
    rw [hix]
    rfl
  ·rw [List.drop_eq_nil_of_le (i := p.ws.length) (by simp)] at hkx
   have e : p.rfltB i [] = none := rfl
   rw [e] at hkx
   rw [hkx] at hix
   simp only [Piece.cells, Int.lt_irrefl, List.length_map, g6, RN, qA, qB, qC, qD, qE, qF]
   exact up_same () g1 rfl hix (by simp) (by simp) rfl rfl
 ·rw [List.drop_eq_nil_of_le (by simp), List.findSome?_nil] at hix
  simp only [Piece.cells, Int.lt_irrefl, List.length_map, List.not_mem_nil, RN, qA, qB, qC, qD, qE, qF]
  rw [hix]
  rfl
theorem rfault_kind {p : Piece} {f : Flt} (h : p.rfault = some f) : f.kind ≠ 0 := by
 rw [Piece.rfault] at h
 obtain ⟨a, _, ha⟩ := List.exists_of_findSome?_eq_some h
 rw [Piece.rfltB] at ha
 obtain ⟨b, _, hb⟩ := List.exists_of_findSome?_eq_some ha
 split at hb
 ·cases hb
 ·rename_i hz
  cases hb
  exact hz
theorem mem_drop_range {n a x : Nat} : x ∈ (List.range n).drop a ↔ a ≤ x ∧ x < n := by
 rw [List.mem_iff_getElem?]
 constructor
 ·rintro ⟨i, hi⟩
  rw [List.getElem?_drop] at hi
  obtain ⟨h1, h2⟩ := List.getElem?_eq_some_iff.1 hi
  simp at h1 h2
  omega
 ·rintro ⟨h1, h2⟩
  refine ⟨x - a, ?_⟩
  rw [List.getElem?_drop, show a + (x - a) = x by omega, List.getElem?_range h2]
end Go.Tel
open Nat renaming reduceBEq → qA, reduceAdd → qB, reduceSub → qC, reduceEqDiff → qD, reduceLT → qE, reduceLeDiff → qF
namespace Go.Tel
open Go.Am
set_option maxRecDepth 10000 in
theorem rListed_c (l : List Int) (n : Int) (hl : l.length ≤ 1000000) : Pure C F.ref_Listed [.slice false (l.map intDV), .int .i64 n] (.d (.bool (l.contains n))) [] := by
 refine pure_of_pwp_d mixed rfl ok_ref_Listed ?_
 simp only [pc_ref_Listed, rs_ref_Listed, RN, qA, qB, qC, qD, qE, qF]
 refine pwp_range l.length (fun i (_ : Unit) => ⟨[(0, .d (.slice false (l.map intDV))), (1, .d (.int .i64 n)), (5, .d (.int .i64 i))], ⟨[], [], []⟩⟩)
  (fun i _ => l.contains n = (l.drop i).contains n) 0 () (Nat.zero_le _) rfl rfl (fun i _ g1 hix => ?_) (fun _ hix => ?_)
 ·obtain ⟨g2, g3, g6⟩ := rng g1 hl
  rw [drop_cons g1, List.contains_cons] at hix
  by_cases he : l.getD i default = n
  ·have e1 : (l.getD i default == n) = true := beq_iff_eq.2 he
   rw [show (n == l.getD i default) = true from beq_iff_eq.2 he.symm, Bool.true_or] at hix
   simp only [List.length_map, g2, g3, g1, Int.toNat_natCast, getD_map, dv_int, e1, RN, qA, qB, qC, qD, qE, qF]
   rw [hix]
  ·have e1 : (l.getD i default == n) = false := beq_eq_false_iff_ne.2 he
   rw [show (n == l.getD i default) = false from beq_eq_false_iff_ne.2 (Ne.symm he), Bool.false_or] at hix
   simp only [List.length_map, g2, g3, g1, Int.toNat_natCast, getD_map, dv_int, e1, g6, RN, qA, qB, qC, qD, qE, qF]
   exact up_same () g1 rfl hix (by simp) (by simp) rfl rfl
 ·rw [List.drop_length] at hix
  simp only [Int.lt_irrefl, List.length_map, RN, qA, qB, qC, qD, qE, qF]
  rw [hix]; rfl
end Go.Tel
open Nat renaming reduceBEq → qA, reduceAdd → qB, reduceSub → qC, reduceEqDiff → qD, reduceLT → qE, reduceLeDiff → qF
namespace Go.Am
theorem app_any {sz : Nat} {c : PV} {xs : List DV} {x : DV} {bs : List (Option (List PV))} {fz : List Nat} {ar : List (Option Arr)} {K : PV → Mem → Prop} (h : sl sz c xs ar) (hs : 0 < sz) (hx : x.fits sz = true) (hl : xs.length + 1 ≤ 1073741824)
  (hK : ∀ k ver ar', ar'[k]? = some (some ⟨sz, xs ++ [x], ver, 0⟩) → (∀ j A, ar[j]? = some (some A) → kOf c ≠ some j → ar'[j]? = some (some A) ∧ j ≠ k) → K (.tsl k ver 0) ⟨bs, fz, ar'⟩) : runApp sz false c (.d (.slice true [x])) ⟨bs, fz, ar⟩ K := by
 rcases h with ⟨rfl, rfl⟩ | ⟨k, ver, rfl, hk⟩
 ·simp only [runApp, appd]
  refine ⟨hs, by simpa using hx, by simp, trivial, by simp, by simpa using hl, ?_⟩
  refine hK _ _ _ (by simp) fun j A hj _ => ?_
  have hlt : j < ar.length := (List.getElem?_eq_some_iff.1 hj).1
  exact ⟨by rw [List.getElem?_append_left hlt]; exact hj, by omega⟩
 ·simp only [runApp, appd, row_m, hk, if_true]
  refine ⟨hs, by simpa using hx, by simp, trivial, by decide, by simpa using hl, ?_⟩
  have hlt : k < ar.length := (List.getElem?_eq_some_iff.1 hk).1
  refine hK _ _ _ (by simp [hlt]) fun j A hj hne => ?_
  have hkj : k ≠ j := fun e => hne (by rw [e]; rfl)
  exact ⟨by rw [List.getElem?_set_ne hkj]; exact hj, fun e => hkj e.symm⟩
theorem len_rel {sz : Nat} {c : PV} {xs : List DV} {bs : List (Option (List PV))} {fz : List Nat} {ar : List (Option Arr)} {K : Int → Prop} (h : sl sz c xs ar) : runLen c ⟨bs, fz, ar⟩ K = K xs.length := by
 rcases h with ⟨rfl, rfl⟩ | ⟨k, ver, rfl, hk⟩
 ·rfl
 ·simp [runLen, row_m, hk]
theorem one_sl {sz : Nat} {c : PV} {xs : List DV} {ar : List (Option Arr)} (h : sl sz c xs ar) : PV.one c = true ∧ PV.cells c = [c] ∧ c.isDead = false := by
 rcases h with ⟨rfl, rfl⟩ | ⟨k, ver, rfl, hk⟩ <;> exact ⟨rfl, rfl, rfl⟩
theorem sl_keep {sz : Nat} {c : PV} {xs : List DV} {ar ar' : List (Option Arr)} (h : sl sz c xs ar) (hk : ∀ k A, kOf c = some k → ar[k]? = some (some A) → ar'[k]? = some (some A)) : sl sz c xs ar' := by
 rcases h with ⟨rfl, rfl⟩ | ⟨k, ver, rfl, hh⟩
 ·exact .inl ⟨rfl, rfl⟩
 ·exact .inr ⟨k, ver, rfl, hk _ _ rfl hh⟩
theorem upto_sl {sz n : Nat} {c : PV} {xs : List DV} {ar : List (Option Arr)} (h : sl sz c xs ar) : c.upto n ar.length = true := by
 rcases h with ⟨rfl, rfl⟩ | ⟨k, ver, rfl, hk⟩
 ·rfl
 ·simp only [PV.upto, decide_eq_true_eq]; exact (List.getElem?_eq_some_iff.1 hk).1
end Go.Am
namespace Go.Tel
open Go.Am
def left (gone : List Int) (k : Nat) : List Nat := (List.range k).filter fun i => !gone.contains (i : Int)
def numOf (gone : List Int) (k : Nat) : Int := if gone.contains (k : Int) then -1 else ((left gone k).length : Int)
def numsOf (gone : List Int) (n : Nat) : List Int := (List.range n).map (numOf gone)
def Piece.kept (p : Piece) (gone : List Int) (k : Nat) : List Wh := (left gone k).map fun i => p.ws.getD i default
def newM (gone : List Int) (m : Ms) : Option Ms := if decide (numOf gone m.a.toNat ≥ 0) && decide (numOf gone m.b.toNat ≥ 0) then some ⟨numOf gone m.a.toNat, numOf gone m.b.toNat⟩ else none
def Piece.rwithout (p : Piece) (gone : List Int) : Piece := { p with ws := p.kept gone p.ws.length, ms := p.ms.filterMap (newM gone) }
theorem left_succ (gone : List Int) (k : Nat) : left gone (k + 1) = left gone k ++ (if gone.contains (k : Int) then [] else [k]) := by
 rw [left, List.range_succ, List.filter_append, ← left]
 congr 1
 cases h : gone.contains (k : Int) <;> (rw [List.filter_cons, h]; rfl)
theorem left_len (gone : List Int) (k : Nat) : (left gone k).length ≤ k := by
 have := List.length_filter_le (fun i : Nat => !gone.contains (i : Int)) (List.range k)
 rw [List.length_range] at this
 exact this
theorem nums_succ (gone : List Int) (n : Nat) : numsOf gone (n + 1) = numsOf gone n ++ [numOf gone n] := by simp [numsOf, List.range_succ]
theorem nums_len (gone : List Int) (n : Nat) : (numsOf gone n).length = n := by simp [numsOf]
structure WoS where
 ver : Nat
 c : PV
 ar : List (Option Arr)
def Piece.wo (p : Piece) (c6 c7 : PV) : List (Option (List PV)) :=
 [some (p.cells.map .d), some [.d (.int .i64 0), .d (.int .i64 0), .d (.int .i64 0), .d (.int .i64 0), .d (.int .i64 0), .d (.slice true []), .d (.slice true []), .d (.slice true [])],
  some [.d (.int .i64 p.w), .d (.int .i64 p.h), .d (.int .i64 p.pl), .d (.int .i64 p.ga), .d (.int .i64 p.po), .d (.slice false (p.cs.map Pt.dv)), c6, c7]]
set_option maxRecDepth 10000 in
set_option maxHeartbeats 2000000 in
theorem rWithout_c (p : Piece) (gone : List Int) (hg : gone.length ≤ 1000) (hw : p.ws.length ≤ 1000) (hm : p.ms.length ≤ 1000) (hms : ∀ m ∈ p.ms, (0 ≤ m.a ∧ m.a.toNat < p.ws.length) ∧ 0 ≤ m.b ∧ m.b.toNat < p.ws.length) :
  Pure C F.ref_Without [p.dv, .slice false (gone.map intDV)] (.d (p.rwithout gone).dv) [] := by
 refine pure_of_pwp_fs mixed rfl ok_ref_Without ?_
 simp only [pc_ref_Without, rs_ref_Without, dv_Piece, List.not_mem_nil, RN, qA, qB, qC, qD, qE, qF]
 refine pwp_range p.ws.length (fun i (q : WoS) => ⟨[(1, .d (.slice false (gone.map intDV))), (2, .d (.cptr p.cells)), (4, .ptr 1 0), (5, .ptr 2 0), (6, .tsl 0 q.ver 0), (7, .d (.int .i64 i))], ⟨p.wo q.c (.d (.slice true [])), [0], q.ar⟩⟩)
  (fun i q => q.ar[0]? = some (some ⟨1, (numsOf gone i).map intDV, q.ver, min i 1⟩) ∧ sl 4 q.c ((p.kept gone i).map Wh.dv) q.ar ∧ kOf q.c ≠ some 0) 0 ⟨0, .d (.slice true []), [some ⟨1, [], 0, 0⟩]⟩ (Nat.zero_le _) rfl ⟨rfl, .inl ⟨rfl, rfl⟩, by simp [kOf]⟩ (fun i q g1 hix => ?_) (fun q hix => ?_)
 ·obtain ⟨ver, c, ar⟩ := q
  obtain ⟨r1, r2, r3⟩ := hix
  simp only at r1 r2 r3
  obtain ⟨g2, g3, g6⟩ := rng g1 (by omega)
  obtain ⟨o1, o2, o3⟩ := one_sl r2
  have hkl : (p.kept gone i).length = (left gone i).length := by simp [Piece.kept]
  have hll := left_len gone i
  simp only [Piece.cells, Piece.wo, g2, List.length_map, len_rel r2, hkl, ev_mkSl1, fits_int, forall_eq, DV.strip, dcells_int, r1, RN, qA, qB, qC, qD, qE, qF]
  refine ⟨by simp, by omega, by rw [nums_len]; omega, ?_⟩
  refine call_d rfl rfl (rListed_c gone i (by omega)) ?_
  have hr0 : 0 < ar.length := (List.getElem?_eq_some_iff.1 r1).1
  have hset : ∀ A : Arr, (ar.set 0 (some A))[0]? = some (some A) := fun A => by simp [hr0]
  have hoth : ∀ (A : Option Arr) (k : Nat), k ≠ 0 → (ar.set 0 A)[k]? = ar[k]? := fun A k hk => by rw [List.getElem?_set_ne (by omega)]
  have ekept : ∀ b : Bool, gone.contains (i : Int) = b → p.kept gone (i + 1) = p.kept gone i ++ (if b then [] else [p.ws.getD i default]) := fun b hb => by
   rw [Piece.kept, left_succ, List.map_append, hb, ← Piece.kept]; cases b <;> rfl
  cases hc : gone.contains (i : Int)
  ·have en : numsOf gone (i + 1) = numsOf gone i ++ [((left gone i).length : Int)] := by rw [nums_succ, numOf, hc]; rfl
   have hwi : (Wh.dv (p.ws.getD i default)).fits 4 = true := rfl
   have hrel : sl 4 c ((p.kept gone i).map Wh.dv) (ar.set 0 (some ⟨1, (numsOf gone i).map intDV ++ [.int .i64 (left gone i).length], ver + 1, 1⟩)) :=
    sl_keep r2 fun k A hk hA => by rw [hoth _ k (fun e => r3 (e ▸ hk))]; exact hA
   simp only [g2, g3, g1, getD_map, Int.toNat_natCast, List.length_map, dv_Wh, ev_mkSl1, DV.strip, dcells_agg, RN, qA, qB, qC, qD, qE, qF]
   rw [dv_Wh] at hwi
   refine app_any hrel (by decide) hwi (by rw [List.length_map]; omega) (fun k v ar' h1 h2 => ?_)
   obtain ⟨h3, h4⟩ := h2 0 _ (hset _) r3
   simp only [cells_t, one_t, g6, RN, qA, qB, qC, qD, qE, qF]
   refine up_refl ⟨ver + 1, .tsl k v 0, ar'⟩ g1 rfl ⟨?_, .inr ⟨k, v, rfl, ?_⟩, ?_⟩
   ·rw [h3, en, List.map_append, show min (i + 1) 1 = 1 by omega]; rfl
   ·rw [h1, ekept false hc, List.map_append]; rfl
   ·simp only [kOf, ne_eq, Option.some.injEq]; omega
  ·have en : numsOf gone (i + 1) = numsOf gone i ++ [-1] := by rw [nums_succ, numOf, hc]; rfl
   have e1 : (numsOf gone i).map intDV ++ [DV.int .i64 ((left gone i).length : Int)] = (numsOf gone i ++ [((left gone i).length : Int)]).map intDV := by rw [List.map_append]; rfl
   have hil : i < (numsOf gone i ++ [((left gone i).length : Int)]).length := by rw [List.length_append, nums_len]; simp
   rw [e1]
   simp only [g3, hset, hil, Int.toNat_natCast, List.length_map, RN, qA, qB, qC, qD, qE, qF]
   refine store_ei (hset _) hil ?_
   simp only [g6, RN, qA, qB, qC, qD, qE, qF]
   refine up_refl ⟨ver + 1, c, _⟩ g1 rfl ⟨?_, ?_, r3⟩
   ·simp only [List.set_set]
    rw [hset, en, show min (i + 1) 1 = 1 by omega]
    have e2 : (numsOf gone i ++ [((left gone i).length : Int)]).set i (-1) = numsOf gone i ++ [-1] := by
     rw [List.set_append_right _ _ (by rw [nums_len]; exact Nat.le_refl _), nums_len, Nat.sub_self]; rfl
    rw [e2]
   ·simp only [List.set_set]
    rw [ekept true hc, if_pos rfl, List.append_nil]
    exact sl_keep r2 fun k A hk hA => by rw [hoth _ k (fun e => r3 (e ▸ hk))]; exact hA
 ·obtain ⟨ver, c, ar⟩ := q
  obtain ⟨r1, r2, r3⟩ := hix
  simp only at r1 r2 r3
  obtain ⟨o1, o2, o3⟩ := one_sl r2
  have hr0 : 0 < ar.length := (List.getElem?_eq_some_iff.1 r1).1
  simp only [Piece.cells, Piece.wo, Int.lt_irrefl, List.length_map, RN, qA, qB, qC, qD, qE, qF]
  refine pwp_range p.ms.length (fun i (q : WoS) => ⟨[(2, .d (.cptr p.cells)), (4, .ptr 1 0), (5, .ptr 2 0), (6, .tsl 0 ver 0), (8, .d (.int .i64 i))], ⟨p.wo c q.c, [0], q.ar⟩⟩)
   (fun i q => q.ar[0]? = some (some ⟨1, (numsOf gone p.ws.length).map intDV, ver, min p.ws.length 1⟩) ∧ sl 4 c ((p.kept gone p.ws.length).map Wh.dv) q.ar ∧ sl 2 q.c (((p.ms.take i).filterMap (newM gone)).map Ms.dv) q.ar ∧ kOf q.c ≠ some 0 ∧ dist q.c c) 0 ⟨0, .d (.slice true []), ar⟩ (Nat.zero_le _) rfl ⟨r1, r2, .inl ⟨rfl, rfl⟩, by simp [kOf], fun k h => by cases h⟩ (fun i q g1 hix => ?_) (fun q hix => ?_)
  ·obtain ⟨_, c7, ar7⟩ := q
   obtain ⟨q1, q2, q3, q4, q5⟩ := hix
   simp only at q1 q2 q3 q4 q5
   obtain ⟨g2, g3, g6⟩ := rng g1 (by omega)
   obtain ⟨o4, o5, o6⟩ := one_sl q3
   have hmm := hms _ (getD_mem g1)
   have ht : p.ms.take (i + 1) = p.ms.take i ++ [p.ms.getD i default] := by rw [take_snoc g1]
   obtain ⟨⟨m1, m2⟩, m3, m4⟩ := hmm
   have nl := nums_len gone p.ws.length
   have ng : ∀ k, k < p.ws.length → (numsOf gone p.ws.length).getD k default = numOf gone k := fun k hk => by
    rw [numsOf, List.getD_eq_getElem?_getD, List.getElem?_map, List.getElem?_range hk]; rfl
   simp only [Piece.cells, Piece.wo, g2, g3, g1, getD_map, Int.toNat_natCast, List.length_map, dv_Ms, List.not_mem_nil, m1, m2, m3, m4, nl, q1, dv_int, ng, RN, qA, qB, qC, qD, qE, qF]
   have hxs : ((p.ms.take i).filterMap (newM gone)).length ≤ 1000 := by
    have h1 := List.length_filterMap_le (newM gone) (p.ms.take i)
    have h2 := List.length_take_le i p.ms
    omega
   generalize p.ms.getD i default = m at *
   have hnew : ∀ b : Bool, (decide (numOf gone m.a.toNat ≥ 0) && decide (numOf gone m.b.toNat ≥ 0)) = b → (p.ms.take (i + 1)).filterMap (newM gone) = (p.ms.take i).filterMap (newM gone) ++ (if b then [⟨numOf gone m.a.toNat, numOf gone m.b.toNat⟩] else []) := fun b hb => by
    rw [ht, List.filterMap_append]
    congr 1
    rw [List.filterMap_cons, newM, hb]; cases b <;> rfl
   have u6 := upto_sl (n := 3) q2
   have u7 := upto_sl (n := 3) q3
   have a0 : 0 < ar7.length := (List.getElem?_eq_some_iff.1 q1).1
   have skip : (decide (numOf gone m.a.toNat ≥ 0) && decide (numOf gone m.b.toNat ≥ 0)) = false → sl 2 c7 (((p.ms.take (i + 1)).filterMap (newM gone)).map Ms.dv) ar7 := fun hb => by
    rw [hnew false hb]; simpa using q3
   by_cases hA : numOf gone m.a.toNat ≥ 0
   case neg =>
    have hb : (decide (numOf gone m.a.toNat ≥ 0) && decide (numOf gone m.b.toNat ≥ 0)) = false := by rw [decide_eq_false hA, Bool.false_and]
    simp only [hA, g6, List.not_mem_nil, RN, qA, qB, qC, qD, qE, qF]
    exact up_take 3 ar7.length ⟨0, c7, ar7⟩ g1 (by simp [Piece.wo, Piece.cells]) ⟨q1, q2, skip hb, q4, q5⟩ (by simp) (by simp) (by simp [PV.upto, a0]) (by simp [PV.upto, u6, u7])
   by_cases hB : numOf gone m.b.toNat ≥ 0
   case neg =>
    have hb : (decide (numOf gone m.a.toNat ≥ 0) && decide (numOf gone m.b.toNat ≥ 0)) = false := by rw [decide_eq_false hB, Bool.and_false]
    simp only [hA, hB, g6, List.not_mem_nil, RN, qA, qB, qC, qD, qE, qF]
    exact up_take 3 ar7.length ⟨0, c7, ar7⟩ g1 (by simp [Piece.wo, Piece.cells]) ⟨q1, q2, skip hb, q4, q5⟩ (by simp) (by simp) (by simp [PV.upto, a0]) (by simp [PV.upto, u6, u7])
   have hb : (decide (numOf gone m.a.toNat ≥ 0) && decide (numOf gone m.b.toNat ≥ 0)) = true := by rw [decide_eq_true hA, decide_eq_true hB]; rfl
   simp only [hA, hB, List.not_mem_nil, ev_mkSl1, DV.strip, dcells_agg, RN, qA, qB, qC, qD, qE, qF]
   refine app_any q3 (by decide) rfl (by rw [List.length_map]; omega) (fun k v ar' h1 h2 => ?_)
   obtain ⟨h3, h4⟩ := h2 0 _ q1 q4
   have q2' : sl 4 c ((p.kept gone p.ws.length).map Wh.dv) ar' := sl_keep q2 fun k A hk hA => (h2 k A hA fun e => q5 k e hk).1
   have hd : dist (.tsl k v 0) c := by
    intro k' e1 e2
    simp only [kOf, Option.some.injEq] at e1
    subst e1
    rcases q2 with ⟨rfl, _⟩ | ⟨k2, v2, rfl, hk2⟩
    ·cases e2
    ·cases e2
     exact (h2 _ _ hk2 fun e => q5 _ e rfl).2 rfl
   have q3' : sl 2 (.tsl k v 0) (((p.ms.take (i + 1)).filterMap (newM gone)).map Ms.dv) ar' := .inr ⟨k, v, rfl, by rw [h1, hnew true hb, List.map_append]; rfl⟩
   have u6' := upto_sl (n := 3) q2'
   have u7' := upto_sl (n := 3) q3'
   have a0' : 0 < ar'.length := (List.getElem?_eq_some_iff.1 h3).1
   have kl := (List.getElem?_eq_some_iff.1 h1).1
   simp only [cells_t, one_t, g6, List.not_mem_nil, RN, qA, qB, qC, qD, qE, qF]
   refine up_take 3 ar'.length ⟨0, .tsl k v 0, ar'⟩ g1 (by simp [Piece.wo, Piece.cells]) ⟨h3, q2', q3', ?_, hd⟩ (by simp) (by simp) (by simp [PV.upto, a0']) (by simp [PV.upto, u6', kl])
   simp only [kOf, ne_eq, Option.some.injEq]; omega
  ·obtain ⟨_, c7, ar7⟩ := q
   obtain ⟨q1, q2, q3, q4, q5⟩ := hix
   simp only at q1 q2 q3 q4 q5
   rw [List.take_length] at q3
   simp only [Piece.rwithout]
   simp only [Piece.cells, Piece.wo, Int.lt_irrefl, List.length_map, List.not_mem_nil, RN, qA, qB, qC, qD, qE, qF]
   generalize (p.kept gone p.ws.length).map Wh.dv = xs6 at *
   generalize (p.ms.filterMap (newM gone)).map Ms.dv = xs7 at *
   rcases q2 with ⟨rfl, rfl⟩ | ⟨k, v, rfl, hk⟩ <;> rcases q3 with ⟨rfl, rfl⟩ | ⟨k', v', rfl, hk'⟩
   ·simp only [List.not_mem_nil, RN, qA, qB, qC, qD, qE, qF]
    simp [datum, DV.strip]
   ·simp only [allD_t, Option.map_none, aggO_none, cells_agg, isDead_agg, one_t, cells_t, List.not_mem_nil, RN, qA, qB, qC, qD, qE, qF]
    simp [datum, datum0L, datum0, row_m, hk', DV.strip]
   ·simp only [allD_t, Option.map_none, aggO_none, cells_agg, isDead_agg, one_t, cells_t, List.not_mem_nil, RN, qA, qB, qC, qD, qE, qF]
    simp [datum, datum0L, datum0, row_m, hk, DV.strip]
   ·simp only [allD_t, Option.map_none, aggO_none, cells_agg, isDead_agg, one_t, cells_t, List.not_mem_nil, RN, qA, qB, qC, qD, qE, qF]
    simp [datum, datum0L, datum0, row_m, hk, hk', DV.strip]
end Go.Tel
namespace Go.Tel
open Go.Am
def allR (below : Int) : Nat → List (List Int)
 | 0 => []
 | k + 1 => ([] :: allR below k).map (List.cons (below - (k + 1 : Nat))) ++ allR below k
def allS (below : Int) (k : Nat) : List (List Int) := [] :: allR below k
def listsM (below : Int) : Nat → Nat → List (List Int)
 | 0, _ => [[]]
 | _ + 1, 0 => []
 | m + 1, k + 1 => (listsM below m k).map (List.cons (below - (k + 1 : Nat))) ++ listsM below (m + 1) k
theorem someR_lex (s : List Int → Bool) (below : Int) : ∀ (k : Nat) (now : List Int), someR s below k now = ((allR below k).map (now ++ ·)).filter s
 | 0, now => rfl
 | k + 1, now => by
  rw [someR, someR_lex s below k, someR_lex s below k, allR]
  simp only [List.map_append, List.map_cons, List.map_map, List.filter_append, List.filter_cons]
  congr 1
  have e : (fun x : List Int => now ++ [below - (k + 1 : Nat)] ++ x) = (fun x => now ++ x) ∘ List.cons (below - (k + 1 : Nat)) := by
   funext x; simp
  rw [e]
  split <;> simp
theorem someS_lex (s : List Int → Bool) (below : Int) (k : Nat) : someS s below k [] = (allS below k).filter s := by
 rw [someS, someR_lex, allS, List.filter_cons]
 simp only [List.nil_append, List.map_id']
 split <;> simp
theorem allR_ne (below : Int) : ∀ (k : Nat) (x : List Int), x ∈ allR below k → ∃ v l, x = v :: l ∧ below - k ≤ v
 | 0, x, h => by cases h
 | k + 1, x, h => by
  rw [allR, List.mem_append] at h
  rcases h with h | h
  ·obtain ⟨y, _, rfl⟩ := List.mem_map.1 h
   exact ⟨_, _, rfl, by omega⟩
  ·obtain ⟨v, l, rfl, hv⟩ := allR_ne below k x h
   exact ⟨v, l, rfl, by omega⟩
theorem allR_len (below : Int) : ∀ (k : Nat) (x : List Int), x ∈ allR below k → x.length ≤ k
 | 0, x, h => by cases h
 | k + 1, x, h => by
  rw [allR, List.mem_append] at h
  rcases h with h | h
  ·obtain ⟨y, hy, rfl⟩ := List.mem_map.1 h
   rcases List.mem_cons.1 hy with rfl | hy
   ·simp
   ·have := allR_len below k y hy
    simp only [List.length_cons]; omega
  ·have := allR_len below k x h; omega
theorem allS_len {below : Int} {k : Nat} {x : List Int} (h : x ∈ allS below k) : x.length ≤ k := by
 rcases List.mem_cons.1 h with rfl | h
 ·simp
 ·exact allR_len below k x h
def Ord (x y : List Int) : Prop := x.length = y.length → ¬ cmpL y x < 0
theorem allR_ord (below : Int) : ∀ k : Nat, (allS below k).Pairwise Ord
 | 0 => by simp [allS, allR]
 | k + 1 => by
  have ih := allR_ord below k
  have hR : (allR below k).Pairwise Ord := (List.pairwise_cons.1 ih).2
  rw [allS]
  refine List.pairwise_cons.2 ⟨fun y hy hl => ?_, ?_⟩
  ·obtain ⟨v, l, rfl, _⟩ := allR_ne below _ y hy
   simp at hl
  ·rw [allR, List.pairwise_append]
   refine ⟨?_, hR, fun x hx y hy hl => ?_⟩
   ·rw [List.pairwise_map]
    refine ih.imp fun {x y} h hl => ?_
    have := h (by simpa using hl)
    simpa [cmpL] using this
   ·obtain ⟨z, _, rfl⟩ := List.mem_map.1 hx
    obtain ⟨v, l, rfl, hv⟩ := allR_ne below k y hy
    rw [cmpL, if_neg (by omega), if_pos (by omega)]
    omega
theorem listsM_all (below : Int) : ∀ (m k : Nat), listsM below m k = (allS below k).filter fun x => decide (x.length = m)
 | 0, k => by
  rw [listsM, allS, List.filter_cons, if_pos (by simp)]
  rw [List.filter_eq_nil_iff.2 fun x hx => by obtain ⟨v, l, rfl, _⟩ := allR_ne below k x hx; simp]
 | m + 1, 0 => by simp [listsM, allS, allR]
 | m + 1, k + 1 => by
  rw [listsM, listsM_all below m k, listsM_all below (m + 1) k]
  have e0 : ∀ l : List (List Int), ([] :: l).filter (fun x => decide (x.length = m + 1)) = l.filter (fun x => decide (x.length = m + 1)) := fun l => by rw [List.filter_cons, if_neg (by simp)]
  have e1 : (allS below k).filter (fun x => decide (x.length = m + 1)) = (allR below k).filter (fun x => decide (x.length = m + 1)) := e0 _
  have e2 : (allS below (k + 1)).filter (fun x => decide (x.length = m + 1)) = (allR below (k + 1)).filter (fun x => decide (x.length = m + 1)) := e0 _
  rw [e1, e2, allR, List.filter_append, List.filter_map]
  congr 2
  congr 1
  funext x
  simp
def firstMin (L : List (List Int)) (r : List Int) : Prop := ∃ A B, L = A ++ r :: B ∧ (∀ a ∈ A, r.length < a.length) ∧ ∀ b ∈ B, r.length ≤ b.length
theorem best_min : ∀ (L P : List (List Int)) (y r : List Int), firstMin P y → (P ++ L).Pairwise Ord → bestL shorter L (some y) = some r → firstMin (P ++ L) r
 | [], P, y, r, h, _, hb => by
  simp only [bestL, Option.some.injEq] at hb
  subst hb
  simpa using h
 | x :: L, P, y, r, h, hp, hb => by
  rw [bestL] at hb
  have hp' : (P ++ [x] ++ L).Pairwise Ord := by simpa using hp
  have e : P ++ x :: L = P ++ [x] ++ L := by simp
  rw [e]
  refine best_min L (P ++ [x]) _ r ?_ hp' hb
  obtain ⟨A, B, rfl, hA, hB⟩ := h
  by_cases hs : shorter x y = true
  ·rw [if_pos hs]
   simp only [shorter, Bool.or_eq_true, Bool.and_eq_true, decide_eq_true_eq] at hs
   have hyx : Ord y x := (List.pairwise_append.1 hp).2.2 y (by simp) x List.mem_cons_self
   have hlt : x.length < y.length := by
    rcases hs with hs | ⟨h1, h2⟩
    ·exact hs
    ·exact absurd h2 (hyx h1.symm)
   refine ⟨A ++ y :: B, [], rfl, fun a ha => ?_, fun b hb => by cases hb⟩
   rcases List.mem_append.1 ha with ha | ha
   ·have := hA a ha; omega
   ·rcases List.mem_cons.1 ha with rfl | ha
    ·exact hlt
    ·have := hB a ha; omega
  ·rw [if_neg hs]
   simp only [shorter, Bool.or_eq_true, Bool.and_eq_true, decide_eq_true_eq, not_or] at hs
   refine ⟨A, B ++ [x], by simp, hA, fun b hb => ?_⟩
   rcases List.mem_append.1 hb with hb | hb
   ·exact hB b hb
   ·rw [List.mem_singleton.1 hb]; omega
theorem best_some {better : List Int → List Int → Bool} : ∀ (L : List (List Int)) (y : List Int), ∃ r, bestL better L (some y) = some r
 | [], y => ⟨y, rfl⟩
 | x :: L, y => by rw [bestL]; exact best_some L _
theorem best_first {L : List (List Int)} (hp : L.Pairwise Ord) : (L = [] ∧ bestL shorter L none = none) ∨ ∃ r, bestL shorter L none = some r ∧ firstMin L r := by
 cases L with
 | nil => exact .inl ⟨rfl, rfl⟩
 | cons x L =>
  obtain ⟨r, hr⟩ := best_some (better := shorter) L x
  refine .inr ⟨r, by rw [bestL]; exact hr, ?_⟩
  have := best_min L [x] x r ⟨[], [], rfl, fun a h => (by cases h), fun b h => (by cases h)⟩ (by simpa using hp) hr
  simpa using this
def firstS (s : List Int → Bool) (below : Int) (k : Nat) : Nat → Nat → Option (List Int)
 | 0, _ => none
 | f + 1, n => match (listsM below n k).find? s with | some x => some x | none => firstS s below k f (n + 1)
theorem find_lists (s : List Int → Bool) (below : Int) (n k : Nat) : (listsM below n k).find? s = ((allS below k).filter s).find? fun x => decide (x.length = n) := by
 rw [listsM_all, List.find?_filter, List.find?_filter]
 congr 1
 funext x
 rw [decide_eq_decide]
 constructor <;> (rintro ⟨a, b⟩; exact ⟨b, a⟩)
theorem firstS_none {s : List Int → Bool} {below : Int} {k : Nat} (h : (allS below k).filter s = []) : ∀ f n, firstS s below k f n = none
 | 0, _ => rfl
 | f + 1, n => by rw [firstS, find_lists, h]; exact firstS_none h f (n + 1)
theorem firstS_min {s : List Int → Bool} {below : Int} {k : Nat} {r : List Int} (h : firstMin ((allS below k).filter s) r) : ∀ f n, n ≤ r.length → r.length < n + f → firstS s below k f n = some r
 | 0, n, h1, h2 => by omega
 | f + 1, n, h1, h2 => by
  obtain ⟨A, B, hL, hA, hB⟩ := h
  rw [firstS, find_lists, hL, List.find?_append]
  have hAn : A.find? (fun x => decide (x.length = n)) = none := List.find?_eq_none.2 fun a ha => by have := hA a ha; simp; omega
  rw [hAn, Option.none_or, List.find?_cons]
  by_cases hn : r.length = n
  ·simp only [hn, decide_true]
  ·have hBn : B.find? (fun x => decide (x.length = n)) = none := List.find?_eq_none.2 fun a ha => by have := hB a ha; simp; omega
   simp only [hn, decide_false, hBn]
   exact firstS_min ⟨A, B, hL, hA, hB⟩ f (n + 1) (by omega) (by omega)
theorem best_lists (s : List Int → Bool) (below : Int) (k f : Nat) (hf : k < f) : bestL shorter (someS s below k []) none = firstS s below k f 0 := by
 rw [someS_lex]
 rcases best_first ((allR_ord below k).filter (p := s)) with ⟨h1, h2⟩ | ⟨r, h1, h2⟩
 ·rw [h2, firstS_none h1]
 ·rw [h1]
  have h3 := h2
  obtain ⟨A, B, hL, _⟩ := h3
  have hr : r ∈ allS below k := (List.mem_filter.1 (by rw [hL]; simp : r ∈ (allS below k).filter s)).1
  have := allS_len hr
  exact (firstS_min h2 f 0 (by omega) (by omega)).symm
end Go.Tel
