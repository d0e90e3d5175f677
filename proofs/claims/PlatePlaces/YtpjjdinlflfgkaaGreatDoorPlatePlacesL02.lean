/-
  Part 2 of the proof of a law of plates, the law itself: an abstract machine over the model, contracts of functions, plain laws.
  Conditions: none.
-/
import Derived.Test.YtpjjdinlflfgkaaGreatDoorPlatePlacesL01
set_option linter.all false
namespace Go.Tel
theorem minmax_M {a b : Int} : (if b > a then b else a) = max a b := by omega
end Go.Tel
open Nat renaming reduceBEq → qA, reduceAdd → qB, reduceSub → qC, reduceEqDiff → qD, reduceLT → qE, reduceLeDiff → qF
namespace Go.Tel
open Go.Am
theorem cellsEq_pt (x y : Pt) : cellsEq [1, 1] [.int .i64 x.x, .int .i64 x.y] [.int .i64 y.x, .int .i64 y.y] = some (decide (x = y)) := by
 obtain ⟨a, b⟩ := x
 obtain ⟨c, d⟩ := y
 by_cases h1 : a = c <;> by_cases h2 : b = d <;> simp [cellsEq, h1, h2]
theorem cellsEq_ms (x y : Ms) : cellsEq [1, 1] [.int .i64 x.a, .int .i64 x.b] [.int .i64 y.a, .int .i64 y.b] = some (decide (x = y)) := by
 obtain ⟨a, b⟩ := x
 obtain ⟨c, d⟩ := y
 by_cases h1 : a = c <;> by_cases h2 : b = d <;> simp [cellsEq, h1, h2]
set_option maxRecDepth 10000 in
set_option maxHeartbeats 4000000 in
theorem rPiece_c (p : Piece) (hc : p.cs.length ≤ 1000) (hw : p.ws.length ≤ 1000) (hm : p.ms.length ≤ 1000) : Pure C F.ref_Piece [p.dv] (.d (.bool p.ok)) [] := by
 refine pure_of_pwp_d mixed rfl ok_ref_Piece ?_
 simp only [pc_ref_Piece, rs_ref_Piece, dv_Piece, RN, qA, qB, qC, qD, qE, qF]
 by_cases hh : p.headOk = true
 case neg =>
  have hok : p.ok = false := by simp [Piece.ok, hh]
  rw [hok]
  repeat' first
   | (refine call_d rfl rfl (rin_c _ _ _) ?_; try simp only [RN, qA, qB, qC, qD, qE, qF])
   | (refine guard_split (by rfl) (fun hB => ?_) (fun hB => ?_) <;> simp only [hB, RN, qA, qB, qC, qD, qE, qF])
   | (refine cond_split (by rfl) (fun hB => ?_) (fun hB => ?_) <;> simp only [hB, RN, qA, qB, qC, qD, qE, qF])
  all_goals (first | rfl | (exfalso; simp_all [Piece.headOk]; done))
 have hh' := hh
 simp only [Piece.headOk, Bool.and_eq_true] at hh'
 obtain ⟨⟨⟨⟨a1, a2⟩, a3⟩, a4⟩, a5⟩ := hh'
 refine call_d rfl rfl (rin_c _ _ _) ?_
 simp only [a1, RN, qA, qB, qC, qD, qE, qF]
 refine call_d rfl rfl (rin_c _ _ _) ?_
 simp only [a2, RN, qA, qB, qC, qD, qE, qF]
 refine call_d rfl rfl (rin_c _ _ _) ?_
 simp only [a3, RN, qA, qB, qC, qD, qE, qF]
 refine call_d rfl rfl (rin_c _ _ _) ?_
 simp only [a4, RN, qA, qB, qC, qD, qE, qF]
 refine call_d rfl rfl (rin_c _ _ _) ?_
 simp only [a5, List.length_map, RN, qA, qB, qC, qD, qE, qF]
 refine call_d rfl rfl (rin_c _ _ _) ?_
 by_cases l1 : inR p.cs.length 1 6 = true
 case neg =>
  have l1' : inR p.cs.length 1 6 = false := by simpa using l1
  simp only [l1', RN, qA, qB, qC, qD, qE, qF]
  simp [Piece.ok, Piece.lensOk, l1']
 by_cases l2 : p.ws.length ≤ 8
 case neg =>
  have b2 : (p.ws.length : Int) > 8 := by omega
  simp only [l1, b2, List.length_map, RN, qA, qB, qC, qD, qE, qF]
  simp [Piece.ok, Piece.lensOk, l1, b2]
 have b2 : ¬ (p.ws.length : Int) > 8 := by omega
 by_cases l3 : p.ms.length ≤ 10
 case neg =>
  have b3 : (p.ms.length : Int) > 10 := by omega
  simp only [l1, b2, b3, List.length_map, RN, qA, qB, qC, qD, qE, qF]
  simp [Piece.ok, Piece.lensOk, l1, b2, b3]
 have b3 : ¬ (p.ms.length : Int) > 10 := by omega
 simp only [l1, b2, b3, List.length_map, RN, qA, qB, qC, qD, qE, qF]
 have hlens : p.lensOk = true := by simp [Piece.lensOk, l1, b2, b3]
 have hok : p.ok = (ptsOk p.w p.h [] p.cs && mssOk p.ws.length [] p.ms && p.ws.all (whOk p.cs.length)) := by simp [Piece.ok, hh, hlens]
 rw [hok]
 refine pwp_range p.cs.length (fun i (_ : Unit) => ⟨[(1, .d (.cptr p.cells)), (3, .d (.int .i64 i))], ⟨[some (p.cells.map .d)], [0], []⟩⟩)
  (fun i _ => ptsOk p.w p.h [] p.cs = ptsOk p.w p.h (p.cs.take i) (p.cs.drop i)) 0 () (Nat.zero_le _) rfl (by simp) (fun i _ g1 hix => ?_) (fun _ hix => ?_)
 ·obtain ⟨g2, g3, g6⟩ := rng g1 (by omega)
  rw [drop_cons g1, ptsOk, ← take_snoc g1] at hix
  simp only [Piece.cells, g2, g3, g1, getD_map, Int.toNat_natCast, List.length_map, dv_Pt, List.not_mem_nil, RN, qA, qB, qC, qD, qE, qF]
  have hci : p.cs.getD i default = p.cs.getD i default := rfl
  generalize hcg : p.cs.getD i default = c at *
  refine call_d rfl rfl (rin_c _ _ _) ?_
  by_cases x1 : inR c.x 0 p.w = true
  case neg =>
   have x1' : inR c.x 0 p.w = false := by simpa using x1
   simp only [x1', RN, qA, qB, qC, qD, qE, qF]
   simp [hix, x1']
  simp only [x1, RN, qA, qB, qC, qD, qE, qF]
  refine call_d rfl rfl (rin_c _ _ _) ?_
  by_cases x2 : inR c.y 0 p.h = true
  case neg =>
   have x2' : inR c.y 0 p.h = false := by simpa using x2
   simp only [x2', RN, qA, qB, qC, qD, qE, qF]
   simp [hix, x2']
  simp only [x2, RN, qA, qB, qC, qD, qE, qF]
  rw [x1, x2, Bool.true_and, Bool.true_and] at hix
  refine pwp_range i (fun k (_ : Unit) => ⟨[(1, .d (.cptr p.cells)), (3, .d (.int .i64 i)), (4, .d (.cptr [.int .i64 c.x, .int .i64 c.y])), (5, .d (.int .i64 k))], ⟨[some (p.cells.map .d), some [.d (.int .i64 c.x), .d (.int .i64 c.y)]], [1, 0], []⟩⟩)
   (fun k _ => c ∉ p.cs.take k) 0 () (Nat.zero_le _) rfl (by simp) (fun k _ e1 hk => ?_) (fun _ hk => ?_)
  ·obtain ⟨e2, e3, e6⟩ := rng e1 (by omega)
   have e1' : k < p.cs.length := by omega
   simp only [Piece.cells, e2, e3, e1', getD_map, Int.toNat_natCast, List.length_map, dv_Pt, RN, qA, qB, qC, qD, qE, qF]
   rw [ev_binA (cellsEq_pt _ _)]
   by_cases he : p.cs.getD k default = c
   ·rw [decide_eq_true he]
    have hx : (true != false) = true := rfl
    have hmem : c ∈ p.cs.take i := by
     rw [← he, List.getD_eq_getElem?_getD, List.getElem?_eq_getElem e1']
     exact List.mem_take_iff_getElem.2 ⟨k, by omega, rfl⟩
    simp only [hx, RN, qA, qB, qC, qD, qE, qF]
    simp [hix, hmem]
   ·rw [decide_eq_false he]
    have hx : (false != false) = false := rfl
    simp only [hx, e6, RN, qA, qB, qC, qD, qE, qF]
    exact up_same () e1 rfl (by rw [take_snoc e1']; simp only [List.mem_append, List.mem_singleton, not_or]; exact ⟨hk, fun h => he h.symm⟩) (by simp) (by simp) rfl rfl
  ·have hcn : (p.cs.take i).contains c = false := by simpa using hk
   rw [hcn, Bool.not_false, Bool.true_and] at hix
   simp only [Int.lt_irrefl, g6, RN, qA, qB, qC, qD, qE, qF]
   exact up_take 1 0 () g1 rfl hix (by simp) (by simp) rfl rfl
 ·rw [List.drop_length, ptsOk] at hix
  simp only [Piece.cells, Int.lt_irrefl, List.length_map, RN, qA, qB, qC, qD, qE, qF]
  rw [hix, Bool.true_and]
  refine pwp_range p.ws.length (fun i (_ : Unit) => ⟨[(1, .d (.cptr p.cells)), (6, .d (.int .i64 i))], ⟨[some (p.cells.map .d)], [0], []⟩⟩)
   (fun i _ => p.ws.all (whOk p.cs.length) = (p.ws.drop i).all (whOk p.cs.length)) 0 () (Nat.zero_le _) rfl (by simp) (fun i _ g1 hjx => ?_) (fun _ hjx => ?_)
  ·obtain ⟨g2, g3, g6⟩ := rng g1 (by omega)
   have wl : IntKind.i64.wrap ((p.cs.length : Int) - 1) = (p.cs.length : Int) - 1 := w64_in (by omega)
   rw [drop_cons g1, List.all_cons] at hjx
   simp only [Piece.cells, g2, g3, g1, getD_map, Int.toNat_natCast, List.length_map, dv_Wh, List.not_mem_nil, wl, RN, qA, qB, qC, qD, qE, qF]
   generalize p.ws.getD i default = w at *
   refine call_d rfl rfl (rin_c _ _ _) ?_
   by_cases x1 : inR w.centre 0 ((p.cs.length : Int) - 1) = true
   case neg =>
    have x1' := eq_false_of_ne_true x1
    simp only [x1', RN, qA, qB, qC, qD, qE, qF]
    simp [hjx, whOk, x1']
   simp only [x1, RN, qA, qB, qC, qD, qE, qF]
   refine call_d rfl rfl (rin_c _ _ _) ?_
   by_cases x2 : inR w.sleeve 0 2 = true
   case neg =>
    have x2' := eq_false_of_ne_true x2
    simp only [x2', RN, qA, qB, qC, qD, qE, qF]
    simp [hjx, whOk, x2']
   simp only [x2, RN, qA, qB, qC, qD, qE, qF]
   refine call_d rfl rfl (rin_c _ _ _) ?_
   by_cases x3 : inR w.layer 0 5 = true
   case neg =>
    have x3' := eq_false_of_ne_true x3
    simp only [x3', RN, qA, qB, qC, qD, qE, qF]
    simp [hjx, whOk, x3']
   simp only [x3, RN, qA, qB, qC, qD, qE, qF]
   refine call_d rfl rfl (rin_c _ _ _) ?_
   by_cases x4 : inR w.teeth 4 50 = true
   case neg =>
    have x4' := eq_false_of_ne_true x4
    simp only [x4', RN, qA, qB, qC, qD, qE, qF]
    simp [hjx, whOk, x4']
   simp only [x4, g6, RN, qA, qB, qC, qD, qE, qF]
   exact up_take 1 0 () g1 rfl (by rw [hjx]; simp [whOk, x1, x2, x3, x4]) (by simp) (by simp) rfl rfl
  rw [List.drop_length, List.all_nil] at hjx
  rw [hjx, Bool.and_true]
  simp only [Piece.cells, Int.lt_irrefl, List.length_map, RN, qA, qB, qC, qD, qE, qF]
  refine pwp_range p.ms.length (fun i (_ : Unit) => ⟨[(1, .d (.cptr p.cells)), (8, .d (.int .i64 i))], ⟨[some (p.cells.map .d)], [0], []⟩⟩)
   (fun i _ => mssOk p.ws.length [] p.ms = mssOk p.ws.length (p.ms.take i) (p.ms.drop i)) 0 () (Nat.zero_le _) rfl (by simp) (fun i _ g1 hkx => ?_) (fun _ hkx => ?_)
  ·obtain ⟨g2, g3, g6⟩ := rng g1 (by omega)
   have hwc : ∀ n, Pure C F.ref_Wheel [.agg p.cells, .int .i64 n] (.d (.bool (inR n 0 (p.ws.length - 1)))) [] := fun n => by
    have := rWheel_c p n (by omega)
    rw [dv_Piece] at this
    exact this
   rw [drop_cons g1, mssOk, ← take_snoc g1] at hkx
   simp only [Piece.cells, g2, g3, g1, getD_map, Int.toNat_natCast, List.length_map, dv_Ms, List.not_mem_nil, RN, qA, qB, qC, qD, qE, qF]
   generalize p.ms.getD i default = c at *
   refine call_d rfl rfl (hwc _) ?_
   by_cases x1 : inR c.a 0 ((p.ws.length : Int) - 1) = true
   case neg =>
    have x1' := eq_false_of_ne_true x1
    simp only [x1', RN, qA, qB, qC, qD, qE, qF]
    simp [hkx, x1']
   simp only [x1, RN, qA, qB, qC, qD, qE, qF]
   refine call_d rfl rfl (hwc _) ?_
   by_cases x2 : inR c.b 0 ((p.ws.length : Int) - 1) = true
   case neg =>
    have x2' := eq_false_of_ne_true x2
    simp only [x2', RN, qA, qB, qC, qD, qE, qF]
    simp [hkx, x2']
   by_cases x3 : c.a ≥ c.b
   case pos =>
    simp only [x2, x3, RN, qA, qB, qC, qD, qE, qF]
    rw [hkx, decide_eq_true x3]
    simp
   simp only [x2, x3, RN, qA, qB, qC, qD, qE, qF]
   rw [x1, x2, decide_eq_false x3, Bool.not_false, Bool.true_and, Bool.true_and, Bool.true_and] at hkx
   refine pwp_range i (fun k (_ : Unit) => ⟨[(1, .d (.cptr p.cells)), (8, .d (.int .i64 i)), (9, .d (.cptr [.int .i64 c.a, .int .i64 c.b])), (10, .d (.int .i64 k))], ⟨[some (p.cells.map .d), some [.d (.int .i64 c.a), .d (.int .i64 c.b)]], [1, 0], []⟩⟩)
    (fun k _ => c ∉ p.ms.take k) 0 () (Nat.zero_le _) rfl (by simp) (fun k _ e1 hk => ?_) (fun _ hk => ?_)
   ·obtain ⟨e2, e3, e6⟩ := rng e1 (by omega)
    have e1' : k < p.ms.length := by omega
    simp only [Piece.cells, e2, e3, e1', getD_map, Int.toNat_natCast, List.length_map, dv_Ms, RN, qA, qB, qC, qD, qE, qF]
    rw [ev_binA (cellsEq_ms _ _)]
    by_cases he : p.ms.getD k default = c
    ·rw [decide_eq_true he]
     have hx : (true != false) = true := rfl
     have hmem : c ∈ p.ms.take i := by
      rw [← he, List.getD_eq_getElem?_getD, List.getElem?_eq_getElem e1']
      exact List.mem_take_iff_getElem.2 ⟨k, by omega, rfl⟩
     simp only [hx, RN, qA, qB, qC, qD, qE, qF]
     simp [hkx, hmem]
    ·rw [decide_eq_false he]
     have hx : (false != false) = false := rfl
     simp only [hx, e6, RN, qA, qB, qC, qD, qE, qF]
     exact up_same () e1 rfl (by rw [take_snoc e1']; simp only [List.mem_append, List.mem_singleton, not_or]; exact ⟨hk, fun h => he h.symm⟩) (by simp) (by simp) rfl rfl
   ·have hcn : (p.ms.take i).contains c = false := by simpa using hk
    rw [hcn, Bool.not_false, Bool.true_and] at hkx
    simp only [Int.lt_irrefl, g6, RN, qA, qB, qC, qD, qE, qF]
    exact up_take 1 0 () g1 rfl hkx (by simp) (by simp) rfl rfl
  ·rw [List.drop_length, mssOk] at hkx
   simp only [Piece.cells, Int.lt_irrefl, List.length_map, RN, qA, qB, qC, qD, qE, qF]
   rw [hkx]
end Go.Tel
open Nat renaming reduceBEq → qA, reduceAdd → qB, reduceSub → qC, reduceEqDiff → qD, reduceLT → qE, reduceLeDiff → qF
namespace Go.Tel
open Go.Am
def Piece.rmeshed (p : Piece) (a b : Int) : Bool := p.ms.any fun m => (m.a == a && m.b == b) || (m.a == b && m.b == a)
def rfold (o : Wh) : List Wh → Int × Int → Int × Int
 | [], r => r
 | w :: l, r => rfold o l (if w.centre == o.centre && w.sleeve == o.sleeve then (min r.1 w.layer, max r.2 w.layer) else r)
def Piece.rwithin (p : Piece) (i o : Int) : Bool :=
 decide ((p.wh i).sleeve < (p.wh o).sleeve) && decide ((p.wh i).layer > (rfold (p.wh o) p.ws ((p.wh o).layer, (p.wh o).layer)).1) && decide ((p.wh i).layer < (rfold (p.wh o) p.ws ((p.wh o).layer, (p.wh o).layer)).2)
def Piece.rnear (p : Piece) (a b n : Int) : Bool := decide (p.far a b < n * n)
def Piece.rmeets (p : Piece) (a b : Int) : Int :=
 if a = b then (if p.edged a then 1 else 0)
 else if p.rmeshed a b && (!p.level a b || p.centred a b || p.rnear a b (p.sum a b) || decide (p.far a b > (p.sum a b + p.pl) * (p.sum a b + p.pl))) then 2
 else if !p.rmeshed a b && p.level a b && !p.centred a b && p.rnear a b (p.sum a b + p.ga) then 3
 else if p.centred a b && p.level a b then 4
 else if p.centred a b && (p.rwithin a b || p.rwithin b a) then 5
 else if !p.centred a b && (decide ((p.wh a).layer ≤ (p.wh b).layer) && p.rnear a b ((p.wh a).teeth + p.po) || decide ((p.wh b).layer ≤ (p.wh a).layer) && p.rnear a b ((p.wh b).teeth + p.po)) then 6
 else 0
def ptFar (a b : Pt) : Int := (a.x - b.x) * (a.x - b.x) + (a.y - b.y) * (a.y - b.y)
def Pt.inB (a : Pt) : Prop := 0 ≤ a.x ∧ a.x ≤ 1000 ∧ 0 ≤ a.y ∧ a.y ≤ 1000
set_option maxRecDepth 10000 in
theorem rFar_c (a b : Pt) (ha : a.inB) (hb : b.inB) : Pure C F.ref_Far [a.dv, b.dv] (.d (.int .i64 (ptFar a b))) [] := by
 obtain ⟨a1, a2, a3, a4⟩ := ha
 obtain ⟨b1, b2, b3, b4⟩ := hb
 have x := sq_bd (n := a.x - b.x) (k := 1000) (by omega)
 have y := sq_bd (n := a.y - b.y) (k := 1000) (by omega)
 have w1 : IntKind.i64.wrap (a.x - b.x) = a.x - b.x := w64_in (by omega)
 have w2 : IntKind.i64.wrap (a.y - b.y) = a.y - b.y := w64_in (by omega)
 have w3 : IntKind.i64.wrap ((a.x - b.x) * (a.x - b.x)) = (a.x - b.x) * (a.x - b.x) := w64_in (by omega)
 have w4 : IntKind.i64.wrap ((a.y - b.y) * (a.y - b.y)) = (a.y - b.y) * (a.y - b.y) := w64_in (by omega)
 have w5 : IntKind.i64.wrap ((a.x - b.x) * (a.x - b.x) + (a.y - b.y) * (a.y - b.y)) = (a.x - b.x) * (a.x - b.x) + (a.y - b.y) * (a.y - b.y) := w64_in (by omega)
 refine pure_of_pwp_d mixed rfl ok_ref_Far ?_
 simp only [pc_ref_Far, rs_ref_Far, dv_Pt, w1, w2, w3, w4, w5, RN, qA, qB, qC, qD, qE, qF]
 rw [ptFar]
set_option maxRecDepth 10000 in
theorem rfar_c (p : Piece) (hg : p.good) (a b : Int) (ha : p.isW a) (hb : p.isW b) : Pure C F.ref_far [p.dv, .int .i64 a, .int .i64 b] (.d (.int .i64 (p.far a b))) [] := by
 have xa := good_pt hg ha
 have xb := good_pt hg hb
 obtain ⟨⟨a3, a4⟩, _⟩ := good_wh hg ha
 obtain ⟨⟨b3, b4⟩, _⟩ := good_wh hg hb
 obtain ⟨a1, a2⟩ := ha
 obtain ⟨b1, b2⟩ := hb
 have hf := rFar_c (p.cs.getD (p.ws.getD a.toNat default).centre.toNat default) (p.cs.getD (p.ws.getD b.toNat default).centre.toNat default) xa xb
 rw [dv_Pt, dv_Pt] at hf
 refine pure_of_pwp_d mixed rfl ok_ref_far ?_
 simp only [pc_ref_far, rs_ref_far, dv_Piece, dv_Pt, dv_Wh, getD_map, a1, a2, a3, a4, b1, b2, b3, b4, List.length_map, RN, qA, qB, qC, qD, qE, qF]
 refine call_d rfl rfl hf ?_
 simp only [Piece.far, Piece.pt, Piece.wh, sq, ptFar]
set_option maxRecDepth 10000 in
theorem rnear_c (p : Piece) (hg : p.good) (a b : Int) (ha : p.isW a) (hb : p.isW b) (n : Int) (hn : -10000 ≤ n ∧ n ≤ 10000) : Pure C F.ref_near [p.dv, .int .i64 a, .int .i64 b, .int .i64 n] (.d (.bool (p.rnear a b n))) [] := by
 have x := sq_bd (n := n) (k := 10000) (by omega)
 have w1 : IntKind.i64.wrap (n * n) = n * n := w64_in (by omega)
 have hf := rfar_c p hg a b ha hb
 rw [dv_Piece] at hf
 refine pure_of_pwp_d mixed rfl ok_ref_near ?_
 simp only [pc_ref_near, rs_ref_near, dv_Piece, RN, qA, qB, qC, qD, qE, qF]
 refine call_d rfl rfl hf ?_
 simp only [w1, RN, qA, qB, qC, qD, qE, qF]
 rw [Piece.rnear]
set_option maxRecDepth 10000 in
theorem rMeshed_c (p : Piece) (a b : Int) (hl : p.ms.length ≤ 1000) : Pure C F.ref_Meshed [p.dv, .int .i64 a, .int .i64 b] (.d (.bool (p.rmeshed a b))) [] := by
 refine pure_of_pwp_d mixed rfl ok_ref_Meshed ?_
 simp only [pc_ref_Meshed, rs_ref_Meshed, dv_Piece, RN, qA, qB, qC, qD, qE, qF]
 refine pwp_range p.ms.length (fun i (_ : Unit) => ⟨[(1, .d (.int .i64 a)), (2, .d (.int .i64 b)), (3, .d (.cptr p.cells)), (7, .d (.int .i64 i))], ⟨[some (p.cells.map .d)], [0], []⟩⟩)
  (fun i _ => p.rmeshed a b = ((p.ms.drop i).any fun m => (m.a == a && m.b == b) || (m.a == b && m.b == a))) 0 () (Nat.zero_le _) rfl rfl (fun i _ g1 hix => ?_) (fun _ hix => ?_)
 ·obtain ⟨g2, g3, g6⟩ := rng g1 (by omega)
  rw [drop_cons g1, List.any_cons] at hix
  simp only [Piece.cells, g2, g3, g1, getD_map, Int.toNat_natCast, List.length_map, dv_Ms, List.not_mem_nil, RN, qA, qB, qC, qD, qE, qF]
  generalize p.ms.getD i default = m at *
  have key : ∀ t : Bool, t = ((m.a == a && m.b == b) || (m.a == b && m.b == a)) → p.rmeshed a b = (t || ((p.ms.drop (i + 1)).any fun m => (m.a == a && m.b == b) || (m.a == b && m.b == a))) := fun t ht => by rw [hix, ht]
  clear hix
  repeat' first
   | (refine guard_split (by rfl) (fun hB => ?_) (fun hB => ?_) <;> simp only [hB, List.not_mem_nil, g6, RN, qA, qB, qC, qD, qE, qF])
   | (refine cond_split (by rfl) (fun hB => ?_) (fun hB => ?_) <;> simp only [hB, List.not_mem_nil, g6, RN, qA, qB, qC, qD, qE, qF])
  all_goals first
   | (rw [key true (by simp_all)]; rfl)
   | (exact up_take 1 0 () g1 rfl (by rw [key false (by simp_all), Bool.false_or]) (by simp) (by simp) rfl rfl)
 ·rw [List.drop_length, List.any_nil] at hix
  simp only [Piece.cells, Int.lt_irrefl, List.length_map, RN, qA, qB, qC, qD, qE, qF]
  rw [hix]
def Wh.cells (w : Wh) : List DV := [.int .i64 w.centre, .int .i64 w.sleeve, .int .i64 w.layer, .int .i64 w.teeth]
set_option maxRecDepth 10000 in
set_option maxHeartbeats 1000000 in
theorem rwithin_c (p : Piece) (hg : p.good) (a b : Int) (ha : p.isW a) (hb : p.isW b) : Pure C F.ref_within [p.dv, .int .i64 a, .int .i64 b] (.d (.bool (p.rwithin a b))) [] := by
 have hlw := hg.lw
 have gb := good_wh hg hb
 obtain ⟨a1, a2⟩ := id ha
 obtain ⟨b1, b2⟩ := id hb
 refine pure_of_pwp_d mixed rfl ok_ref_within ?_
 simp only [pc_ref_within, rs_ref_within, dv_Piece, dv_Wh, getD_map, a1, a2, b1, b2, List.length_map, List.not_mem_nil, RN, qA, qB, qC, qD, qE, qF]
 refine pwp_range p.ws.length (fun i (r : Int × Int) => ⟨[(3, .d (.cptr p.cells)), (7, .d (.cptr (p.wh a).cells)), (8, .d (.cptr (p.wh b).cells)), (9, .d (.int .i64 r.1)), (10, .d (.int .i64 r.2)), (11, .d (.int .i64 i))],
   ⟨[some (p.cells.map .d), some ((p.wh a).cells.map .d), some ((p.wh b).cells.map .d)], [2, 1, 0], []⟩⟩)
  (fun i r => rfold (p.wh b) p.ws ((p.wh b).layer, (p.wh b).layer) = rfold (p.wh b) (p.ws.drop i) r) 0 ((p.wh b).layer, (p.wh b).layer) (Nat.zero_le _) rfl rfl (fun i r g1 hix => ?_) (fun r hix => ?_)
 ·obtain ⟨g2, g3, g6⟩ := rng g1 (by omega)
  rw [drop_cons g1, rfold] at hix
  simp only [Piece.cells, Wh.cells, g2, g3, g1, getD_map, Int.toNat_natCast, List.length_map, dv_Wh, List.not_mem_nil, RN, qA, qB, qC, qD, qE, qF]
  generalize p.ws.getD i default = w at *
  by_cases h1 : w.centre = (p.wh b).centre
  ·have e1 : (w.centre == (p.wh b).centre) = true := beq_iff_eq.2 h1
   by_cases h2 : w.sleeve = (p.wh b).sleeve
   ·have e2 : (w.sleeve == (p.wh b).sleeve) = true := beq_iff_eq.2 h2
    rw [e1, e2, Bool.and_self, if_pos rfl] at hix
    simp only [e1, e2, g6, minmax_m, minmax_M, List.not_mem_nil, RN, qA, qB, qC, qD, qE, qF]
    exact up_take 3 0 (min r.1 w.layer, max r.2 w.layer) g1 rfl hix (by simp) (by simp) rfl rfl
   ·have e2 : (w.sleeve == (p.wh b).sleeve) = false := beq_eq_false_iff_ne.2 h2
    rw [e1, e2, Bool.and_false] at hix
    rw [if_neg (by decide)] at hix
    simp only [e1, e2, g6, List.not_mem_nil, RN, qA, qB, qC, qD, qE, qF]
    exact up_take 3 0 r g1 rfl hix (by simp) (by simp) rfl rfl
  ·have e1 : (w.centre == (p.wh b).centre) = false := beq_eq_false_iff_ne.2 h1
   rw [e1, Bool.false_and] at hix
   rw [if_neg (by decide)] at hix
   simp only [e1, g6, List.not_mem_nil, RN, qA, qB, qC, qD, qE, qF]
   exact up_take 3 0 r g1 rfl hix (by simp) (by simp) rfl rfl
 ·rw [List.drop_length, rfold] at hix
  simp only [Piece.cells, Wh.cells, Int.lt_irrefl, List.length_map, List.not_mem_nil, RN, qA, qB, qC, qD, qE, qF]
  repeat' first
   | (refine guard_split (by rfl) (fun hB => ?_) (fun hB => ?_) <;> simp only [hB, List.not_mem_nil, RN, qA, qB, qC, qD, qE, qF])
   | (refine cond_split (by rfl) (fun hB => ?_) (fun hB => ?_) <;> simp only [hB, List.not_mem_nil, RN, qA, qB, qC, qD, qE, qF])
  all_goals (clear gb; simp only [Piece.rwithin, hix]; simp_all <;> (intros; omega))
set_option maxRecDepth 10000 in
set_option maxHeartbeats 4000000 in
theorem rMeets_c (p : Piece) (hg : p.good) (hl : p.ms.length ≤ 1000) (a b : Int) (ha : p.isW a) (hb : p.isW b) : Pure C F.ref_Meets [p.dv, .int .i64 a, .int .i64 b] (.d (.int .i64 (p.rmeets a b))) [] := by
 have xa := good_pt hg ha
 obtain ⟨⟨a3, a4⟩, t1, t2, _⟩ := good_wh hg ha
 obtain ⟨⟨b3, b4⟩, t3, t4, _⟩ := good_wh hg hb
 obtain ⟨a1, a2⟩ := id ha
 obtain ⟨b1, b2⟩ := id hb
 have hpl := hg.pl
 have hga := hg.ga
 have hpo := hg.po
 have hm := rMeshed_c p a b hl
 have hf := rfar_c p hg a b ha hb
 have hn := rnear_c p hg a b ha hb
 have h1 := rwithin_c p hg a b ha hb
 have h2 := rwithin_c p hg b a hb ha
 rw [dv_Piece] at hm hf hn h1 h2
 refine pure_of_pwp_d mixed rfl ok_ref_Meets ?_
 simp only [pc_ref_Meets, rs_ref_Meets, dv_Piece, dv_Wh, dv_Pt, getD_map, a1, a2, b1, b2, a3, a4, List.length_map, List.not_mem_nil, RN, qA, qB, qC, qD, qE, qF]
 have w1 : IntKind.i64.wrap ((p.ws.getD a.toNat default).teeth + (p.ws.getD b.toNat default).teeth) = p.sum a b := w64_in (by omega)
 have sb : 0 ≤ p.sum a b ∧ p.sum a b ≤ 2000 := by simp only [Piece.sum, Piece.wh]; omega
 have w2 : IntKind.i64.wrap (p.sum a b + p.pl) = p.sum a b + p.pl := w64_in (by omega)
 have w3 : IntKind.i64.wrap (p.sum a b + p.ga) = p.sum a b + p.ga := w64_in (by omega)
 have w4 : IntKind.i64.wrap ((p.ws.getD a.toNat default).teeth + p.po) = (p.ws.getD a.toNat default).teeth + p.po := w64_in (by omega)
 have w5 : IntKind.i64.wrap ((p.ws.getD b.toNat default).teeth + p.po) = (p.ws.getD b.toNat default).teeth + p.po := w64_in (by omega)
 have x := sq_bd (n := p.sum a b + p.pl) (k := 10000) (by omega)
 have w6 : IntKind.i64.wrap ((p.sum a b + p.pl) * (p.sum a b + p.pl)) = (p.sum a b + p.pl) * (p.sum a b + p.pl) := w64_in (by omega)
 have w7 : IntKind.i64.wrap ((p.cs.getD (p.ws.getD a.toNat default).centre.toNat default).x + (p.ws.getD a.toNat default).teeth) = (p.cs.getD (p.ws.getD a.toNat default).centre.toNat default).x + (p.ws.getD a.toNat default).teeth := w64_in (by omega)
 have w8 : IntKind.i64.wrap ((p.cs.getD (p.ws.getD a.toNat default).centre.toNat default).y + (p.ws.getD a.toNat default).teeth) = (p.cs.getD (p.ws.getD a.toNat default).centre.toNat default).y + (p.ws.getD a.toNat default).teeth := w64_in (by omega)
 by_cases hab : a = b
 ·have e1 : (a == b) = true := beq_iff_eq.2 hab
  simp only [e1, dv_Wh, dv_Pt, getD_map, a3, a4, List.length_map, List.not_mem_nil, RN, qA, qB, qC, qD, qE, qF]
  repeat' first
   | (refine guard_split (by rfl) (fun hB => ?_) (fun hB => ?_) <;> simp only [hB, w7, w8, RN, qA, qB, qC, qD, qE, qF])
   | (refine cond_split (by rfl) (fun hB => ?_) (fun hB => ?_) <;> simp only [hB, w7, w8, RN, qA, qB, qC, qD, qE, qF])
  all_goals (rw [Piece.rmeets, if_pos hab]; simp_all [Piece.edged, Piece.pt, Piece.wh])
 have e1 : (a == b) = false := beq_eq_false_iff_ne.2 hab
 simp only [e1, w1, RN, qA, qB, qC, qD, qE, qF]
 repeat' first
  | (refine call_d rfl rfl (hm) ?_; try simp only [w1, w2, w3, w4, w5, w6, RN, qA, qB, qC, qD, qE, qF])
  | (refine call_d rfl rfl (hf) ?_; try simp only [w1, w2, w3, w4, w5, w6, RN, qA, qB, qC, qD, qE, qF])
  | (refine call_d rfl rfl (hn _ (by omega)) ?_; try simp only [w1, w2, w3, w4, w5, w6, RN, qA, qB, qC, qD, qE, qF])
  | (refine call_d rfl rfl (h1) ?_; try simp only [w1, w2, w3, w4, w5, w6, RN, qA, qB, qC, qD, qE, qF])
  | (refine call_d rfl rfl (h2) ?_; try simp only [w1, w2, w3, w4, w5, w6, RN, qA, qB, qC, qD, qE, qF])
  | (refine guard_split (by rfl) (fun hB => ?_) (fun hB => ?_) <;> simp only [hB, w1, w2, w3, w4, w5, w6, RN, qA, qB, qC, qD, qE, qF])
  | (refine cond_split (by rfl) (fun hB => ?_) (fun hB => ?_) <;> simp only [hB, w1, w2, w3, w4, w5, w6, RN, qA, qB, qC, qD, qE, qF])
 all_goals clear hm hf hn h1 h2 w1 w2 w3 w4 w5 w6 w7 w8 x xa
 all_goals (rw [Piece.rmeets, if_neg hab]; simp_all [Piece.level, Piece.centred, Piece.wh] <;> (intros; omega))
end Go.Tel
namespace Go.Tel
open Go.Am
theorem mssOk_lt {n : Int} : ∀ {pre ms : List Ms}, mssOk n pre ms = true → ∀ m ∈ ms, 0 ≤ m.a ∧ m.a < m.b ∧ m.b ≤ n - 1
 | _, [], _, m, h => by cases h
 | pre, x :: ms, h, m, hm => by
  simp only [mssOk, inR, Bool.and_eq_true, decide_eq_true_eq, Bool.not_eq_true', decide_eq_false_iff_not, ge_iff_le] at h
  rcases List.mem_cons.1 hm with rfl | hm
  ·omega
  ·exact mssOk_lt h.2 m hm
theorem ok_mss {p : Piece} (h : p.ok = true) : ∀ m ∈ p.ms, 0 ≤ m.a ∧ m.a < m.b ∧ m.b ≤ p.ws.length - 1 := by
 simp only [Piece.ok, Bool.and_eq_true] at h
 exact mssOk_lt h.1.2
theorem mesh_same {p : Piece} (h : ∀ m ∈ p.ms, m.a < m.b) (a b : Int) : p.mesh a b = p.rmeshed a b := by
 rw [Bool.eq_iff_iff, Piece.mesh, List.contains_iff_mem, Piece.rmeshed, List.any_eq_true]
 constructor
 ·intro hm
  refine ⟨_, hm, ?_⟩
  simp only [Bool.or_eq_true, Bool.and_eq_true, beq_iff_eq]
  omega
 ·rintro ⟨⟨x, y⟩, hm, he⟩
  have := h _ hm
  simp only [Bool.or_eq_true, Bool.and_eq_true, beq_iff_eq] at he this
  have e : (⟨min a b, max a b⟩ : Ms) = ⟨x, y⟩ := by
   rw [Ms.mk.injEq]; omega
  rw [e]; exact hm
theorem bounds_same (p : Piece) (o : Int) : ∀ (ws : List Wh) (i : Nat) (r : Int × Int), p.ws.drop i = ws → p.bounds [] o i ws r = rfold (p.wh o) ws r
 | [], _, _, _ => rfl
 | w :: ws, i, r, h => by
  have hi : i < p.ws.length := by
   refine Nat.lt_of_not_le fun hh => ?_
   rw [List.drop_of_length_le hh] at h
   cases h
  have h2 := drop_cons hi
  rw [h] at h2
  obtain ⟨hw, ht⟩ := List.cons.inj h2
  have hwi : p.wh (i : Int) = w := by rw [Piece.wh, Int.toNat_natCast, ← hw]
  rw [Piece.bounds, rfold, bounds_same p o ws (i + 1) _ ht.symm]
  congr 1
  simp only [Piece.sleeved, Piece.centred, hwi, List.contains_nil, Bool.not_false, Bool.and_true]
theorem far_comm (p : Piece) (a b : Int) : p.far b a = p.far a b := by
 have e : ∀ x y : Int, sq (x - y) = sq (y - x) := fun x y => by
  rw [sq, sq, ← Int.neg_sub y x, Int.neg_mul_neg]
 rw [Piece.far, Piece.far, e (p.pt b).x, e (p.pt b).y]
theorem nested_same (p : Piece) (a b : Int) (hc : p.centred a b = true) (hl : p.level a b = false) : p.nested [] a b = (p.rwithin a b || p.rwithin b a) := by
 have e : ∀ o r, p.bounds [] o 0 p.ws r = rfold (p.wh o) p.ws r := fun o r => bounds_same p o p.ws 0 r rfl
 rw [Piece.nested]
 rcases Int.lt_trichotomy (p.wh a).sleeve (p.wh b).sleeve with h | h | h
 ·have hs : p.sleeved a b = false := by rw [Piece.sleeved, hc, Bool.true_and, beq_eq_false_iff_ne]; omega
  have h1 : ¬ (p.wh a).sleeve > (p.wh b).sleeve := by omega
  rw [hc, hs, hl, if_neg (by decide)]
  simp only [if_neg h1, e]
  rw [Bool.eq_iff_iff]
  simp only [inR, Piece.rwithin, Bool.or_eq_true, Bool.and_eq_true, decide_eq_true_eq]
  omega
 ·have hs : p.sleeved a b = true := by rw [Piece.sleeved, hc, Bool.true_and, beq_iff_eq]; exact h
  rw [hs]
  have h1 : ¬ (p.wh a).sleeve < (p.wh b).sleeve := by omega
  have h2 : ¬ (p.wh b).sleeve < (p.wh a).sleeve := by omega
  simp [Piece.rwithin, h1, h2]
 ·have hs : p.sleeved a b = false := by rw [Piece.sleeved, hc, Bool.true_and, beq_eq_false_iff_ne]; omega
  rw [hc, hs, hl, if_neg (by decide)]
  simp only [if_pos h, e]
  rw [Bool.eq_iff_iff]
  simp only [inR, Piece.rwithin, Bool.or_eq_true, Bool.and_eq_true, decide_eq_true_eq]
  omega
theorem wrong_same {p : Piece} (h : ∀ m ∈ p.ms, m.a < m.b) (a b : Int) : p.wrong [] a b = p.rmeets a b := by
 rw [Piece.wrong, Piece.rmeets]
 by_cases hab : a = b
 ·rw [if_pos hab, if_pos hab]
 rw [if_neg hab, if_neg hab]
 have e1 : p.apart a b = (p.rmeshed a b && (!p.level a b || p.centred a b || p.rnear a b (p.sum a b) || decide (p.far a b > (p.sum a b + p.pl) * (p.sum a b + p.pl)))) := by
  rw [Piece.apart, mesh_same h]; rfl
 have e2 : p.touch a b = (!p.rmeshed a b && p.level a b && !p.centred a b && p.rnear a b (p.sum a b + p.ga)) := by
  rw [Piece.touch, mesh_same h]; rfl
 rw [e1, e2]
 split
 ·rfl
 split
 ·rfl
 rw [Piece.same]
 split
 ·rfl
 rename_i hcl
 have e5 : p.nested [] a b = (p.centred a b && (p.rwithin a b || p.rwithin b a)) := by
  cases hc : p.centred a b
  ·simp [Piece.nested, hc]
  ·rw [Bool.true_and]
   refine nested_same p a b hc ?_
   cases hl : p.level a b
   ·rfl
   ·rw [hc, hl] at hcl; exact absurd rfl hcl
 have e6 : p.posted a b = (!p.centred a b && (decide ((p.wh a).layer ≤ (p.wh b).layer) && p.rnear a b ((p.wh a).teeth + p.po) || decide ((p.wh b).layer ≤ (p.wh a).layer) && p.rnear a b ((p.wh b).teeth + p.po))) := by
  rw [Piece.posted, Piece.post, Piece.post, far_comm p a b]; rfl
 rw [e5, e6]
end Go.Tel
open Nat renaming reduceBEq → qA, reduceAdd → qB, reduceSub → qC, reduceEqDiff → qD, reduceLT → qE, reduceLeDiff → qF
namespace Go.Tel
open Go.Am
set_option maxRecDepth 10000 in
set_option maxHeartbeats 1000000 in
theorem rWith_c (p : Piece) (hc : p.cs.length ≤ 1000) (hw : p.ws.length ≤ 1000) (hm : p.ms.length ≤ 1000) (at_ : Pt) (teeth a b : Int) (ha : p.isW a) :
  Pure C F.ref_With [p.dv, at_.dv, .int .i64 teeth, .int .i64 a, .int .i64 b] (.d (p.with at_ (p.wh a).layer teeth (othersOf a b)).dv) [] := by
 obtain ⟨a1, a2⟩ := ha
 refine pure_of_pwp_f mixed rfl ok_ref_With ?_
 simp only [pc_ref_With, rs_ref_With, dv_Piece, dv_Pt, List.length_map, List.not_mem_nil, getD_map, a1, a2, dv_Wh, cells_t, one_t, RN, qA, qB, qC, qD, qE, qF]
 have f1 : ∀ {d : DV} {n : Nat}, d.fits n = true → ∀ y : DV, y = d → y.fits n = true := fun h y hy => by rw [hy]; exact h
 refine ⟨pts_fit p.cs, by simp, by simp, by omega, rfl, f1 rfl, by simp, by omega, whs_fit p.ws, by simp, by simp, by omega, rfl, f1 rfl, by simp, by omega, mss_fit p.ms, by simp, by simp, by omega, rfl, f1 rfl, by simp, by omega, ?_⟩
 by_cases hb : b ≥ 0
 ·simp only [hb, cells_t, one_t, List.length_append, List.length_map, RN, qA, qB, qC, qD, qE, qF]
  refine ⟨rfl, f1 rfl, by simp, by omega, ?_⟩
  simp only [cells_t, one_t, allD_t, Option.map_none, aggO_none, cells_agg, isDead_agg, RN, qA, qB, qC, qD, qE, qF]
  rw [othersOf, if_pos hb]
  simp [datum, datum0L, datum0, row_m, dv_Piece, Piece.with, dv_Pt, dv_Wh, dv_Ms, DV.strip, Piece.wh]
 ·simp only [hb, cells_t, one_t, allD_t, Option.map_none, aggO_none, cells_agg, isDead_agg, RN, qA, qB, qC, qD, qE, qF]
  rw [othersOf, if_neg hb]
  simp [datum, datum0L, datum0, row_m, dv_Piece, Piece.with, dv_Pt, dv_Wh, dv_Ms, DV.strip, Piece.wh]
def Piece.room (p : Piece) (b : Int) : Bool := decide (p.cs.length < 6) && decide (p.ws.length < 8) && decide (p.ms.length + (if b ≥ 0 then 2 else 1) ≤ 10)
set_option maxRecDepth 10000 in
theorem rRoom_c (p : Piece) (b : Int) (hm : p.ms.length ≤ 1000) : Pure C F.ref_Room [p.dv, .int .i64 b] (.d (.bool (p.room b))) [] := by
 have w1 : IntKind.i64.wrap ((p.ms.length : Int) + 1) = ((p.ms.length + 1 : Nat) : Int) := by rw [w64_in (by omega)]; omega
 have w2 : IntKind.i64.wrap ((p.ms.length : Int) + 2) = ((p.ms.length + 2 : Nat) : Int) := by rw [w64_in (by omega)]; omega
 refine pure_of_pwp_d mixed rfl ok_ref_Room ?_
 simp only [pc_ref_Room, rs_ref_Room, dv_Piece, List.not_mem_nil, RN, qA, qB, qC, qD, qE, qF]
 by_cases hb : b ≥ 0
 ·simp only [hb, List.length_map, List.not_mem_nil, RN, qA, qB, qC, qD, qE, qF]
  repeat' first
   | (refine guard_split (by rfl) (fun hB => ?_) (fun hB => ?_) <;> simp only [hB, List.length_map, w2, List.not_mem_nil, RN, qA, qB, qC, qD, qE, qF])
   | (refine cond_split (by rfl) (fun hB => ?_) (fun hB => ?_) <;> simp only [hB, List.length_map, w2, List.not_mem_nil, RN, qA, qB, qC, qD, qE, qF])
  all_goals (rw [Piece.room, if_pos hb]; simp_all <;> (intros; first | omega | (apply decide_eq_decide.2; omega) | (rw [Bool.eq_iff_iff]; simp; omega)))
 ·simp only [hb, List.length_map, List.not_mem_nil, RN, qA, qB, qC, qD, qE, qF]
  repeat' first
   | (refine guard_split (by rfl) (fun hB => ?_) (fun hB => ?_) <;> simp only [hB, List.length_map, w1, List.not_mem_nil, RN, qA, qB, qC, qD, qE, qF])
   | (refine cond_split (by rfl) (fun hB => ?_) (fun hB => ?_) <;> simp only [hB, List.length_map, w1, List.not_mem_nil, RN, qA, qB, qC, qD, qE, qF])
  all_goals (rw [Piece.room, if_neg hb]; simp_all <;> (intros; first | omega | (apply decide_eq_decide.2; omega) | (rw [Bool.eq_iff_iff]; simp; omega)))
def Piece.rq (p : Piece) (at_ : Pt) (teeth a b : Int) : Piece := p.with at_ (p.wh a).layer teeth (othersOf a b)
def Piece.rstands (p : Piece) (at_ : Pt) (teeth a b : Int) : Bool := !p.cs.contains at_ && (upTo (p.ws.length + 1)).all fun i => (p.rq at_ teeth a b).rmeets i p.ws.length == 0
set_option maxRecDepth 10000 in
set_option maxHeartbeats 1000000 in
theorem rStands_c (p : Piece) (hg : p.good) (hc : p.cs.length ≤ 900) (hw : p.ws.length ≤ 900) (hm : p.ms.length ≤ 900) (at_ : Pt) (hat : at_.inB) (teeth a b : Int) (ht : 0 ≤ teeth ∧ teeth ≤ 1000) (ha : p.isW a) :
  Pure C F.ref_Stands [p.dv, at_.dv, .int .i64 teeth, .int .i64 a, .int .i64 b] (.d (.bool (p.rstands at_ teeth a b))) [] := by
 have hwi := hg.ws _ (getD_mem ha.2)
 obtain ⟨q, hq⟩ : ∃ q, q = p.rq at_ teeth a b := ⟨_, rfl⟩
 have hqg : q.good := by rw [hq]; exact with_good hg ⟨hat.1, hat.2.1⟩ hat.2.2 ht ⟨hwi.2.2.2.1, hwi.2.2.2.2⟩ (by omega)
 have hqw : q.ws.length = p.ws.length + 1 := by rw [hq]; simp [Piece.rq, Piece.with]
 have hol : (othersOf a b).length ≤ 2 := by rw [othersOf]; split <;> simp
 have hqm : q.ms.length ≤ 1000 := by rw [hq]; simp only [Piece.rq, Piece.with, List.length_append, List.length_map]; omega
 have hwc := rWith_c p (by omega) (by omega) (by omega) at_ teeth a b ha
 rw [← Piece.rq, ← hq] at hwc
 simp only [dv_Piece, dv_Pt] at hwc
 refine pure_of_pwp_d mixed rfl ok_ref_Stands ?_
 simp only [pc_ref_Stands, rs_ref_Stands, dv_Piece, dv_Pt, List.not_mem_nil, RN, qA, qB, qC, qD, qE, qF]
 refine pwp_range p.cs.length (fun i (_ : Unit) => ⟨[(2, .d (.int .i64 teeth)), (3, .d (.int .i64 a)), (4, .d (.int .i64 b)), (5, .d (.cptr p.cells)), (6, .d (.cptr [.int .i64 at_.x, .int .i64 at_.y])), (11, .d (.int .i64 i))], ⟨[some (p.cells.map .d), some [.d (.int .i64 at_.x), .d (.int .i64 at_.y)]], [1, 0], []⟩⟩)
  (fun i _ => p.cs.contains at_ = (p.cs.drop i).contains at_) 0 () (Nat.zero_le _) rfl rfl (fun i _ g1 hix => ?_) (fun _ hix => ?_)
 ·obtain ⟨g2, g3, g6⟩ := rng g1 (by omega)
  rw [drop_cons g1, List.contains_cons] at hix
  cases h4 : decide (p.cs.getD i default = at_)
  ·have h5 : (at_ == p.cs.getD i default) = false := beq_eq_false_iff_ne.2 fun h => (of_decide_eq_false h4) h.symm
   rw [h5, Bool.false_or] at hix
   simp only [Piece.cells, g2, g3, g1, g6, h4, dv_Pt, ev_binA2, pt_eq, bne_f, getD_map, Int.toNat_natCast, List.length_map, RN, qA, qB, qC, qD, qE, qF]
   exact up_same () g1 rfl hix (by simp) (by simp) rfl rfl
  ·have h5 : (at_ == p.cs.getD i default) = true := beq_iff_eq.2 (of_decide_eq_true h4).symm
   rw [h5, Bool.true_or] at hix
   simp only [Piece.cells, g2, g3, g1, h4, dv_Pt, ev_binA2, pt_eq, bne_f, getD_map, Int.toNat_natCast, List.length_map, RN, qA, qB, qC, qD, qE, qF]
   rw [Piece.rstands, hix]; rfl
 ·rw [List.drop_length, List.contains_nil] at hix
  have hst : p.rstands at_ teeth a b = (upTo (p.ws.length + 1)).all fun i => q.rmeets i p.ws.length == 0 := by rw [Piece.rstands, hix, hq]; rfl
  simp only [Piece.cells, Int.lt_irrefl, List.length_map, List.not_mem_nil, RN, qA, qB, qC, qD, qE, qF]
  refine call_d rfl rfl hwc ?_
  simp only [List.not_mem_nil, RN, qA, qB, qC, qD, qE, qF]
  refine pwp_range (p.ws.length + 1) (fun i (_ : Unit) => ⟨[(5, .d (.cptr p.cells)), (12, .d (.cptr q.cells)), (13, .d (.int .i64 i))], ⟨[some (p.cells.map .d), some [.d (.int .i64 at_.x), .d (.int .i64 at_.y)], some (q.cells.map .d)], [2, 1, 0], []⟩⟩)
   (fun i _ => p.rstands at_ teeth a b = ((upTo (p.ws.length + 1)).drop i).all fun i => q.rmeets i p.ws.length == 0) 0 () (Nat.zero_le _) rfl hst (fun i _ hi hii => ?_) (fun _ hii => ?_)
  ·obtain ⟨i2, i3, i6⟩ := rng hi (by omega)
   have i4 : (i : Int) < (q.ws.length : Int) := by omega
   rw [drop_cons (by rw [upTo_len]; exact hi), upTo_getD hi, List.all_cons] at hii
   have hwr := rMeets_c q hqg hqm i p.ws.length ⟨by omega, by show _ < q.ws.length; omega⟩ ⟨by omega, by show _ < q.ws.length; omega⟩
   rw [dv_Piece] at hwr
   simp only [i4, Piece.cells, List.length_map, RN, qA, qB, qC, qD, qE, qF]
   refine call_d rfl rfl hwr ?_
   by_cases hz : q.rmeets i p.ws.length = 0
   ·have hz1 : (q.rmeets i p.ws.length != 0) = false := by rw [hz]; rfl
    have hz2 : (q.rmeets i p.ws.length == 0) = true := by rw [hz]; rfl
    rw [hz2, Bool.true_and] at hii
    simp only [hz1, i6, RN, qA, qB, qC, qD, qE, qF]
    exact up_same () hi rfl hii (by simp) (by simp) rfl rfl
   ·have hz1 : (q.rmeets i p.ws.length != 0) = true := bne_iff_ne.2 hz
    have hz2 : (q.rmeets i p.ws.length == 0) = false := beq_eq_false_iff_ne.2 hz
    rw [hz2, Bool.false_and] at hii
    simp only [hz1, RN, qA, qB, qC, qD, qE, qF]
    rw [hii]
  ·rw [List.drop_eq_nil_of_le (by rw [upTo_len]; omega), List.all_nil] at hii
   have i4 : ¬ ((p.ws.length + 1 : Nat) : Int) < (q.ws.length : Int) := by omega
   simp only [i4, Piece.cells, List.length_map, RN, qA, qB, qC, qD, qE, qF]
   rw [hii]
def Piece.rokAt (p : Piece) (teeth a b x y : Int) : Bool :=
 decide (ptFar ⟨x, y⟩ (p.pt a) ≥ (teeth + (p.wh a).teeth) * (teeth + (p.wh a).teeth)) && decide (ptFar ⟨x, y⟩ (p.pt a) ≤ (teeth + (p.wh a).teeth + p.pl) * (teeth + (p.wh a).teeth + p.pl)) && p.rstands ⟨x, y⟩ teeth a b
def Piece.rplaceY (p : Piece) (teeth a b x : Int) : Option Pt := (upTo (p.h.toNat + 1)).findSome? fun y => if p.rokAt teeth a b x y then some ⟨x, y⟩ else none
def Piece.rplaceX (p : Piece) (teeth a b : Int) : Option Pt := (upTo (p.w.toNat + 1)).findSome? fun x => p.rplaceY teeth a b x
set_option maxRecDepth 10000 in
set_option maxHeartbeats 2000000 in
theorem rPlace_c (p : Piece) (hg : p.good) (hc : p.cs.length ≤ 900) (hw : p.ws.length ≤ 900) (hm : p.ms.length ≤ 900) (teeth a b : Int) (ht : 0 ≤ teeth ∧ teeth ≤ 1000) (ha : p.isW a) :
  Pure C F.ref_Place [p.dv, .int .i64 teeth, .int .i64 a, .int .i64 b] (.d (.tup [((p.rplaceX teeth a b).getD default).dv, .bool (p.rplaceX teeth a b).isSome])) [] := by
 have hw1 := hg.w
 have hh1 := hg.h
 have hpl := hg.pl
 have xa := good_pt hg ha
 obtain ⟨⟨a3, a4⟩, t1, t2, _⟩ := good_wh hg ha
 obtain ⟨a1, a2⟩ := id ha
 have w1 : IntKind.i64.wrap (teeth + (p.ws.getD a.toNat default).teeth) = teeth + (p.ws.getD a.toNat default).teeth := w64_in (by omega)
 obtain ⟨n, hn⟩ : ∃ n, n = teeth + (p.ws.getD a.toNat default).teeth := ⟨_, rfl⟩
 have s1 := sq_bd (n := n) (k := 10000) (by omega)
 have s2 := sq_bd (n := n + p.pl) (k := 10000) (by omega)
 have w2 : IntKind.i64.wrap (n * n) = n * n := w64_in (by omega)
 have w3 : IntKind.i64.wrap (n + p.pl) = n + p.pl := w64_in (by omega)
 have w4 : IntKind.i64.wrap ((n + p.pl) * (n + p.pl)) = (n + p.pl) * (n + p.pl) := w64_in (by omega)
 refine pure_of_pwp_d mixed rfl ok_ref_Place ?_
 simp only [pc_ref_Place, rs_ref_Place, dv_Piece, List.not_mem_nil, RN, qA, qB, qC, qD, qE, qF]
 refine pwp_range (p.w.toNat + 1) (fun x (_ : Unit) => ⟨[(1, .d (.int .i64 teeth)), (2, .d (.int .i64 a)), (3, .d (.int .i64 b)), (4, .d (.cptr p.cells)), (8, .ptr 1 0), (10, .d (.int .i64 x))], ⟨[some (p.cells.map .d), some [.d (.int .i64 0), .d (.int .i64 0)]], [0], []⟩⟩)
  (fun x _ => p.rplaceX teeth a b = ((upTo (p.w.toNat + 1)).drop x).findSome? fun x => p.rplaceY teeth a b x) 0 () (Nat.zero_le _) rfl rfl (fun x _ hx hix => ?_) (fun _ hix => ?_)
 ·obtain ⟨_, x3, x6⟩ := rng hx (by omega)
  have x2 : (x : Int) ≤ p.w := by omega
  rw [drop_cons (by rw [upTo_len]; exact hx), upTo_getD hx, List.findSome?_cons] at hix
  simp only [Piece.cells, x2, RN, qA, qB, qC, qD, qE, qF]
  refine pwp_range (p.h.toNat + 1) (fun y (_ : Unit) => ⟨[(1, .d (.int .i64 teeth)), (2, .d (.int .i64 a)), (3, .d (.int .i64 b)), (4, .d (.cptr p.cells)), (8, .ptr 1 0), (10, .d (.int .i64 x)), (11, .d (.int .i64 y))], ⟨[some (p.cells.map .d), some [.d (.int .i64 0), .d (.int .i64 0)]], [0], []⟩⟩)
   (fun y _ => p.rplaceY teeth a b x = ((upTo (p.h.toNat + 1)).drop y).findSome? fun y => if p.rokAt teeth a b x y then some ⟨x, y⟩ else none) 0 () (Nat.zero_le _) rfl rfl (fun y _ hy hiy => ?_) (fun _ hiy => ?_)
  ·obtain ⟨_, y3, y6⟩ := rng hy (by omega)
   have y2 : (y : Int) ≤ p.h := by omega
   rw [drop_cons (by rw [upTo_len]; exact hy), upTo_getD hy, List.findSome?_cons] at hiy
   have hat : Pt.inB ⟨x, y⟩ := ⟨by simp only; omega, by simp only; omega, by simp only; omega, by simp only; omega⟩
   have hf := rFar_c ⟨x, y⟩ (p.cs.getD (p.ws.getD a.toNat default).centre.toNat default) hat xa
   have hs := rStands_c p hg hc hw hm ⟨x, y⟩ hat teeth a b ht ha
   rw [dv_Pt, dv_Pt] at hf
   rw [dv_Piece, dv_Pt] at hs
   simp only [Piece.cells, y2, dv_Wh, dv_Pt, getD_map, a1, a2, a3, a4, List.length_map, List.not_mem_nil, w1, RN, qA, qB, qC, qD, qE, qF]
   refine call_d rfl rfl hf ?_
   have hok : p.rokAt teeth a b x y = (decide (ptFar ⟨x, y⟩ (p.cs.getD (p.ws.getD a.toNat default).centre.toNat default) ≥ n * n) && decide (ptFar ⟨x, y⟩ (p.cs.getD (p.ws.getD a.toNat default).centre.toNat default) ≤ (n + p.pl) * (n + p.pl)) && p.rstands ⟨x, y⟩ teeth a b) := by rw [hn]; rfl
   rw [← hn]
   generalize ptFar ⟨x, y⟩ (p.cs.getD (p.ws.getD a.toNat default).centre.toNat default) = d at *
   have bad : p.rokAt teeth a b x y = false → p.rplaceY teeth a b x = ((upTo (p.h.toNat + 1)).drop (y + 1)).findSome? fun y => if p.rokAt teeth a b x y then some ⟨x, y⟩ else none := fun h => by
    rw [h] at hiy; exact hiy
   by_cases h1 : d ≥ n * n
   case neg =>
    rw [decide_eq_false h1] at hok
    simp only [w2, h1, y6, RN, qA, qB, qC, qD, qE, qF]
    exact up_take 2 0 () hy rfl (bad hok) (by simp) (by simp) rfl rfl
   by_cases h2 : d ≤ (n + p.pl) * (n + p.pl)
   case neg =>
    rw [decide_eq_false h2, Bool.and_false] at hok
    simp only [w2, h1, w3, w4, h2, y6, RN, qA, qB, qC, qD, qE, qF]
    exact up_take 2 0 () hy rfl (bad hok) (by simp) (by simp) rfl rfl
   rw [decide_eq_true h1, decide_eq_true h2, Bool.true_and, Bool.true_and] at hok
   simp only [w2, h1, w3, w4, h2, RN, qA, qB, qC, qD, qE, qF]
   refine call_d rfl rfl hs ?_
   cases h3 : p.rstands ⟨x, y⟩ teeth a b
   ·rw [h3] at hok
    simp only [y6, RN, qA, qB, qC, qD, qE, qF]
    exact up_take 2 0 () hy rfl (bad hok) (by simp) (by simp) rfl rfl
   ·rw [h3] at hok
    rw [hok, if_pos rfl] at hiy
    simp only at hiy
    rw [hiy] at hix
    simp only [List.not_mem_nil, RN, qA, qB, qC, qD, qE, qF]
    rw [hix]
    rfl
  ·rw [List.drop_eq_nil_of_le (by rw [upTo_len]; omega), List.findSome?_nil] at hiy
   rw [hiy] at hix
   have y2 : ¬ ((p.h.toNat + 1 : Nat) : Int) ≤ p.h := by omega
   simp only [Piece.cells, y2, x6, RN, qA, qB, qC, qD, qE, qF]
   exact up_same () hx rfl hix (by simp) (by simp) rfl rfl
 ·rw [List.drop_eq_nil_of_le (by rw [upTo_len]; omega), List.findSome?_nil] at hix
  have x2 : ¬ ((p.w.toNat + 1 : Nat) : Int) ≤ p.w := by omega
  simp only [Piece.cells, x2, List.not_mem_nil, RN, qA, qB, qC, qD, qE, qF]
  rw [hix]
  rfl
end Go.Tel
namespace Go.Tel
open Go.Am
theorem mem_upTo {n : Nat} {x : Int} : x ∈ upTo n ↔ 0 ≤ x ∧ x < n := by
 rw [upTo, List.mem_map]
 refine ⟨?_, fun h => ⟨x.toNat, List.mem_range.2 (by omega), by simp only [Int.ofNat_eq_natCast]; omega⟩⟩
 rintro ⟨i, hi, rfl⟩
 have := List.mem_range.1 hi
 simp only [Int.ofNat_eq_natCast]; omega
end Go.Tel
open Nat renaming reduceBEq → qA, reduceAdd → qB, reduceSub → qC, reduceEqDiff → qD, reduceLT → qE, reduceLeDiff → qF
namespace Go.Tel
open Go.Am
theorem isW_iff {p : Piece} {a : Int} (h : inR a 0 (p.ws.length - 1) = true) : p.isW a := by
 simp only [inR, Bool.and_eq_true, decide_eq_true_eq] at h
 exact ⟨by omega, by omega⟩
theorem with_pt {p : Piece} (hg : p.good) {at_ : Pt} {layer teeth : Int} {o : List Int} {a : Int} (ha : p.isW a) : (p.with at_ layer teeth o).pt a = p.pt a ∧ (p.with at_ layer teeth o).wh a = p.wh a := by
 have hw : (p.with at_ layer teeth o).wh a = p.wh a := by
  simp only [Piece.wh, Piece.with, List.getD_eq_getElem?_getD, List.getElem?_append_left ha.2]
 have hc := (hg.ws _ (getD_mem ha.2)).1.2
 refine ⟨?_, hw⟩
 rw [Piece.pt, Piece.pt, hw]
 simp only [Piece.with, List.getD_eq_getElem?_getD]
 rw [List.getElem?_append_left (by simpa [Piece.wh, List.getD_eq_getElem?_getD] using hc)]
theorem with_new {p : Piece} {at_ : Pt} {layer teeth : Int} {o : List Int} : (p.with at_ layer teeth o).wh p.ws.length = ⟨p.cs.length, 0, layer, teeth⟩ ∧ (p.with at_ layer teeth o).pt p.ws.length = at_ := by
 have hw : (p.with at_ layer teeth o).wh p.ws.length = ⟨p.cs.length, 0, layer, teeth⟩ := by
  simp [Piece.wh, Piece.with, List.getD_eq_getElem?_getD]
 refine ⟨hw, ?_⟩
 rw [Piece.pt, hw]
 simp [Piece.with, List.getD_eq_getElem?_getD]
theorem others_mem {a b : Int} : a ∈ othersOf a b := by rw [othersOf]; split <;> simp
theorem with_ms {p : Piece} (h : ∀ m ∈ p.ms, m.a < m.b) {at_ : Pt} {layer teeth a b : Int} (ha : p.isW a) (hb : b ≥ 0 → p.isW b) : ∀ m ∈ (p.with at_ layer teeth (othersOf a b)).ms, m.a < m.b := by
 intro m hm
 simp only [Piece.with, List.mem_append, List.mem_map] at hm
 rcases hm with hm | ⟨x, hx, rfl⟩
 ·exact h m hm
 ·have : p.isW x := by
   rw [othersOf] at hx
   split at hx
   ·rename_i hb0
    rcases List.mem_cons.1 hx with rfl | hx
    ·exact ha
    ·rw [List.mem_singleton.1 hx]; exact hb hb0
   ·rw [List.mem_singleton.1 hx]; exact ha
  have h1 := this.1
  have h2 := this.2
  simp only
  omega
theorem okAt_same {p : Piece} (hg : p.good) (hm : ∀ m ∈ p.ms, m.a < m.b) {teeth a b : Int} (ha : p.isW a) (hb : b ≥ 0 → p.isW b) (x y : Int) : p.okAt teeth a (othersOf a b) x y = p.rokAt teeth a b x y := by
 have hq := with_ms (at_ := ⟨x, y⟩) (layer := (p.wh a).layer) (teeth := teeth) hm ha hb
 have e1 : p.okAt teeth a (othersOf a b) x y = p.rstands ⟨x, y⟩ teeth a b := by
  rw [Piece.okAt, Piece.rstands]
  congr 1
  congr 1
  funext i
  rw [Piece.rq, ← wrong_same hq]
  rfl
 rw [e1, Piece.rokAt]
 cases hs : p.rstands ⟨x, y⟩ teeth a b
 ·rw [Bool.and_false]
 rw [Bool.and_true]
 symm
 rw [Piece.rstands, Bool.and_eq_true] at hs
 have h1 := List.all_eq_true.1 hs.2 a (mem_upTo.2 ⟨ha.1, by have := ha.1; have := ha.2; omega⟩)
 rw [beq_iff_eq, Piece.rmeets, if_neg (by have := ha.1; have := ha.2; omega)] at h1
 obtain ⟨wa, wb⟩ := with_pt hg (at_ := ⟨x, y⟩) (layer := (p.wh a).layer) (teeth := teeth) (o := othersOf a b) ha
 obtain ⟨na, nb⟩ := with_new (p := p) (at_ := ⟨x, y⟩) (layer := (p.wh a).layer) (teeth := teeth) (o := othersOf a b)
 have hmesh : (p.rq ⟨x, y⟩ teeth a b).rmeshed a p.ws.length = true := by
  rw [Piece.rmeshed, List.any_eq_true]
  refine ⟨⟨a, p.ws.length⟩, ?_, by simp⟩
  simp only [Piece.rq, Piece.with, List.mem_append, List.mem_map]
  exact .inr ⟨a, others_mem, rfl⟩
 rw [hmesh, Bool.true_and] at h1
 have hsum : (p.rq ⟨x, y⟩ teeth a b).sum a p.ws.length = teeth + (p.wh a).teeth := by
  rw [Piece.sum, Piece.rq, wb, na]; simp only; omega
 have hfar : (p.rq ⟨x, y⟩ teeth a b).far a p.ws.length = ptFar ⟨x, y⟩ (p.pt a) := by
  rw [← far_comm, Piece.far, Piece.rq, wa, nb, ptFar]; rfl
 have hpl : (p.rq ⟨x, y⟩ teeth a b).pl = p.pl := rfl
 split at h1
 ·cases h1
 ·rename_i hn
  simp only [Piece.rnear, hsum, hfar, hpl, Bool.or_eq_true, decide_eq_true_eq, not_or] at hn
  rw [Bool.and_eq_true, decide_eq_true_eq, decide_eq_true_eq]
  omega
theorem placeX_same {p : Piece} (hg : p.good) (hm : ∀ m ∈ p.ms, m.a < m.b) {teeth a b : Int} (ha : p.isW a) (hb : b ≥ 0 → p.isW b) : p.placeX teeth a (othersOf a b) = p.rplaceX teeth a b := by
 rw [Piece.placeX, Piece.rplaceX]
 congr 1
 funext x
 rw [Piece.placeY, Piece.rplaceY]
 congr 1
 funext y
 rw [okAt_same hg hm ha hb]
def Piece.rplaced (p : Piece) (teeth a b : Int) : Int := if p.placeBad teeth a b then 2 else if !p.room b then 3 else 0
set_option maxRecDepth 10000 in
set_option maxHeartbeats 1000000 in
theorem placed_c (p : Piece) (hc : p.cs.length ≤ 1000) (hw : p.ws.length ≤ 1000) (hm : p.ms.length ≤ 1000) (teeth a b : Int) : Pure C F.law_placed [p.dv, .int .i64 teeth, .int .i64 a, .int .i64 b] (.d (.int .i64 (p.rplaced teeth a b))) [] := by
 have h1 := rPiece_c p hc hw hm
 have h2 := rWheel_c p a (by omega)
 have h3 := rWheel_c p b (by omega)
 have h4 := rRoom_c p b hm
 rw [dv_Piece] at h1 h2 h3 h4
 refine pure_of_pwp_d mixed rfl ok_law_placed ?_
 simp only [pc_law_placed, rs_law_placed, dv_Piece, List.not_mem_nil, RN, qA, qB, qC, qD, qE, qF]
 repeat' first
  | (refine call_d rfl rfl (h1) ?_; try simp only [List.not_mem_nil, RN, qA, qB, qC, qD, qE, qF])
  | (refine call_d rfl rfl (h2) ?_; try simp only [List.not_mem_nil, RN, qA, qB, qC, qD, qE, qF])
  | (refine call_d rfl rfl (h3) ?_; try simp only [List.not_mem_nil, RN, qA, qB, qC, qD, qE, qF])
  | (refine call_d rfl rfl (h4) ?_; try simp only [List.not_mem_nil, RN, qA, qB, qC, qD, qE, qF])
  | (refine guard_split (by rfl) (fun hB => ?_) (fun hB => ?_) <;> simp only [hB, List.not_mem_nil, RN, qA, qB, qC, qD, qE, qF])
  | (refine cond_split (by rfl) (fun hB => ?_) (fun hB => ?_) <;> simp only [hB, List.not_mem_nil, RN, qA, qB, qC, qD, qE, qF])
 all_goals clear h1 h2 h3 h4
 all_goals (rw [Piece.rplaced, Piece.placeBad]; simp_all [inR] <;> (intros; omega))
theorem placeBad_n {p : Piece} {teeth a b : Int} (h : p.placeBad teeth a b = false) : p.ok = true ∧ (4 ≤ teeth ∧ teeth ≤ 50) ∧ p.isW a ∧ (b ≥ 0 → p.isW b) := by
 simp only [Piece.placeBad, Bool.or_eq_false_iff, Bool.not_eq_false', Bool.and_eq_false_iff, bne_eq_false_iff_eq, beq_eq_false_iff_ne] at h
 obtain ⟨⟨⟨h1, h2⟩, h3⟩, h4⟩ := h
 refine ⟨h1, by simpa [inR] using h2, isW_iff h3, fun hb => ?_⟩
 rcases h4 with rfl | ⟨h4, _⟩
 ·omega
 ·exact isW_iff h4
theorem place_bad {p : Piece} {teeth a b : Int} (h : p.placeBad teeth a b = true) : p.place teeth a b = (⟨0, 0⟩, 2) := by rw [Piece.place, if_pos h]; rfl
theorem room_eq {p : Piece} (hok : p.ok = true) (a b : Int) : (p.cs.length == 6 || p.ws.length == 8 || decide (p.ms.length + (othersOf a b).length > 10)) = !p.room b := by
 have hl := Piece.ok_lens hok
 have ho : (othersOf a b).length = if b ≥ 0 then 2 else 1 := by rw [othersOf]; split <;> rfl
 rw [Bool.eq_iff_iff, Piece.room, ho]
 simp only [Bool.or_eq_true, beq_iff_eq, decide_eq_true_eq, Bool.not_eq_true', Bool.and_eq_false_iff, decide_eq_false_iff_not]
 omega
theorem place_long {p : Piece} {teeth a b : Int} (h : p.placeBad teeth a b = false) (hr : p.room b = false) : p.place teeth a b = (⟨0, 0⟩, 3) := by
 rw [Piece.place, h, if_neg (by decide), room_eq (placeBad_n h).1, hr]; rfl
theorem place_ok {p : Piece} {teeth a b : Int} (h : p.placeBad teeth a b = false) (hr : p.room b = true) : p.place teeth a b = match p.rplaceX teeth a b with | some pt => (pt, 0) | none => (⟨0, 0⟩, 5) := by
 obtain ⟨h1, _, h3, h4⟩ := placeBad_n h
 rw [Piece.place, h, if_neg (by decide), room_eq h1, hr, placeX_same (Piece.ok_good h1) (fun m hm => (ok_mss h1 m hm).2.1) h3 h4]
 rfl
set_option maxRecDepth 10000 in
set_option maxHeartbeats 2000000 in
theorem PlatePlaces_c (hkn : KnownC) (p : Piece) (teeth a b : Int) : Pure Go.Tel.C F.law_PlatePlaces [p.dv, .int .i64 teeth, .int .i64 a, .int .i64 b] (.d (.bool true)) [] := by
 have hkn : Pure C F.law_known [] (.d (.bool true)) [] := hkn
 have n0 : ((0 : Int) != 0) = false := rfl
 have n2 : ((2 : Int) != 0) = true := rfl
 have n3 : ((3 : Int) != 0) = true := rfl
 have y0 : ((0 : Int) == 0) = true := rfl
 have y2 : ((2 : Int) == 2) = true := rfl
 have y3 : ((3 : Int) == 3) = true := rfl
 have y5 : ((5 : Int) == 5) = true := rfl
 have tf : (true != false) = true := rfl
 have hsh := short_c p
 rw [dv_Piece] at hsh
 refine pure_of_pwp_d mixed rfl ok_law_PlatePlaces ?_
 simp only [pc_law_PlatePlaces, rs_law_PlatePlaces, dv_Piece, List.not_mem_nil, RN, qA, qB, qC, qD, qE, qF]
 refine call_d rfl rfl hsh ?_
 cases hs : p.short
 ·simp only [RN, qA, qB, qC, qD, qE, qF]
  refine call_d rfl rfl hkn ?_
  simp only [RN, qA, qB, qC, qD, qE, qF]
 simp only [Piece.short, Bool.and_eq_true, decide_eq_true_eq] at hs
 obtain ⟨⟨s1, s2⟩, s3⟩ := hs
 have h1 := Place_c lay_c p (by omega) (by omega) (by omega) teeth a b
 have h2 := placed_c p (by omega) (by omega) (by omega) teeth a b
 rw [dv_Piece] at h1 h2
 simp only [RN, qA, qB, qC, qD, qE, qF]
 refine call_d rfl rfl h1 ?_
 cases hb : p.placeBad teeth a b
 case true =>
  have e : p.rplaced teeth a b = 2 := by rw [Piece.rplaced, if_pos hb]
  rw [e] at h2
  rw [place_bad hb]
  simp only [dv_Pt, List.not_mem_nil, RN, qA, qB, qC, qD, qE, qF]
  refine call_d rfl rfl h2 ?_
  simp only [n2, y2, RN, qA, qB, qC, qD, qE, qF]
  rw [ev_binA (t := true) rfl]
  simp only [tf, RN, qA, qB, qC, qD, qE, qF]
  refine call_d rfl rfl hkn ?_
  simp only [RN, qA, qB, qC, qD, qE, qF]
 cases hr : p.room b
 ·have e : p.rplaced teeth a b = 3 := by rw [Piece.rplaced, hb, if_neg (by decide), hr]; rfl
  rw [e] at h2
  rw [place_long hb hr]
  simp only [dv_Pt, List.not_mem_nil, RN, qA, qB, qC, qD, qE, qF]
  refine call_d rfl rfl h2 ?_
  simp only [n3, y3, RN, qA, qB, qC, qD, qE, qF]
  rw [ev_binA (t := true) rfl]
  simp only [tf, RN, qA, qB, qC, qD, qE, qF]
  refine call_d rfl rfl hkn ?_
  simp only [RN, qA, qB, qC, qD, qE, qF]
 have e : p.rplaced teeth a b = 0 := by rw [Piece.rplaced, hb, if_neg (by decide), hr]; rfl
 rw [e] at h2
 rw [place_ok hb hr]
 obtain ⟨k1, k2, k3, k4⟩ := placeBad_n hb
 have h3 := rPlace_c p (Piece.ok_good k1) (by omega) (by omega) (by omega) teeth a b (by omega) k3
 rw [dv_Piece] at h3
 cases hx : p.rplaceX teeth a b with
 | none =>
  rw [hx] at h3
  simp only [dv_Pt, List.not_mem_nil, RN, qA, qB, qC, qD, qE, qF]
  refine call_d rfl rfl h2 ?_
  simp only [n0, RN, qA, qB, qC, qD, qE, qF]
  refine call_d rfl rfl h3 ?_
  have d0 : ((none : Option Pt).getD default).dv = .agg [.int .i64 0, .int .i64 0] := rfl
  simp only [d0, Option.isSome_none, List.not_mem_nil, y5, RN, qA, qB, qC, qD, qE, qF]
  rw [ev_binA (t := true) rfl]
  simp only [tf, RN, qA, qB, qC, qD, qE, qF]
  refine call_d rfl rfl hkn ?_
  simp only [RN, qA, qB, qC, qD, qE, qF]
 | some pt =>
  rw [hx] at h3
  simp only [dv_Pt, List.not_mem_nil, RN, qA, qB, qC, qD, qE, qF]
  refine call_d rfl rfl h2 ?_
  simp only [n0, RN, qA, qB, qC, qD, qE, qF]
  refine call_d rfl rfl h3 ?_
  simp only [Option.getD_some, dv_Pt, Option.isSome_some, List.not_mem_nil, y0, RN, qA, qB, qC, qD, qE, qF]
  rw [ev_binA (t := true) (by simp [cellsEq])]
  simp only [tf, RN, qA, qB, qC, qD, qE, qF]
  refine call_d rfl rfl hkn ?_
  simp only [RN, qA, qB, qC, qD, qE, qF]
end Go.Tel
