/-
  Part 2 of the proof of a law of plates, the law itself: an abstract machine over the model, contracts of functions, plain laws.
  Conditions: none.
-/
import Derived.Test.YtpjjdinlflfgkabGreatDoorPlateFaultsL01
set_option linter.all false
namespace Go.Tel
theorem minmax_M {a b : Int} : (if b > a then b else a) = max a b := by omega
end Go.Tel
open Nat renaming reduceBEq → qA, reduceAdd → qB, reduceSub → qC, reduceEqDiff → qD, reduceLT → qE, reduceLeDiff → qF
namespace Go.Tel
open Go.Am
theorem cellsEq_pt (x y : Pt) : cellsEq [1, 1] [.int .i64 x.x, .int .i64 x.y] [.int .i64 y.x, .int .i64 y.y] = some (decide (x = y)) := by
 obtain ⟨a, b⟩ := x
 obtain ⟨c, d⟩ := y
 by_cases h1 : a = c <;> by_cases h2 : b = d <;> simp [cellsEq, h1, h2]
theorem cellsEq_ms (x y : Ms) : cellsEq [1, 1] [.int .i64 x.a, .int .i64 x.b] [.int .i64 y.a, .int .i64 y.b] = some (decide (x = y)) := by
 obtain ⟨a, b⟩ := x
 obtain ⟨c, d⟩ := y
 by_cases h1 : a = c <;> by_cases h2 : b = d <;> simp [cellsEq, h1, h2]
set_option maxRecDepth 10000 in
set_option maxHeartbeats 4000000 in
theorem rPiece_c (p : Piece) (hc : p.cs.length ≤ 1000) (hw : p.ws.length ≤ 1000) (hm : p.ms.length ≤ 1000) : Pure C F.ref_Piece [p.dv] (.d (.bool p.ok)) [] := by
 refine pure_of_pwp_d mixed rfl ok_ref_Piece ?_
 simp only [pc_ref_Piece, rs_ref_Piece, dv_Piece, RN, qA, qB, qC, qD, qE, qF]
 by_cases hh : p.headOk = true
 case neg =>
  have hok : p.ok = false := by simp [Piece.ok, hh]
  rw [hok]
  repeat' first
   | (refine call_d rfl rfl (rin_c _ _ _) ?_; try simp only [RN, qA, qB, qC, qD, qE, qF])
   | (refine guard_split (by rfl) (fun hB => ?_) (fun hB => ?_) <;> simp only [hB, RN, qA, qB, qC, qD, qE, qF])
   | (refine cond_split (by rfl) (fun hB => ?_) (fun hB => ?_) <;> simp only [hB, RN, qA, qB, qC, qD, qE, qF])
  all_goals (first | rfl | (exfalso; simp_all [Piece.headOk]; done))
 have hh' := hh
 simp only [Piece.headOk, Bool.and_eq_true] at hh'
 obtain ⟨⟨⟨⟨a1, a2⟩, a3⟩, a4⟩, a5⟩ := hh'
 refine call_d rfl rfl (rin_c _ _ _) ?_
 simp only [a1, RN, qA, qB, qC, qD, qE, qF]
 refine call_d rfl rfl (rin_c _ _ _) ?_
 simp only [a2, RN, qA, qB, qC, qD, qE, qF]
 refine call_d rfl rfl (rin_c _ _ _) ?_
 simp only [a3, RN, qA, qB, qC, qD, qE, qF]
 refine call_d rfl rfl (rin_c _ _ _) ?_
 simp only [a4, RN, qA, qB, qC, qD, qE, qF]
 refine call_d rfl rfl (rin_c _ _ _) ?_
 simp only [a5, List.length_map, RN, qA, qB, qC, qD, qE, qF]
 refine call_d rfl rfl (rin_c _ _ _) ?_
 by_cases l1 : inR p.cs.length 1 6 = true
 case neg =>
  have l1' : inR p.cs.length 1 6 = false := by simpa using l1
  simp only [l1', RN, qA, qB, qC, qD, qE, qF]
  simp [Piece.ok, Piece.lensOk, l1']
 by_cases l2 : p.ws.length ≤ 8
 case neg =>
  have b2 : (p.ws.length : Int) > 8 := by omega
  simp only [l1, b2, List.length_map, RN, qA, qB, qC, qD, qE, qF]
  simp [Piece.ok, Piece.lensOk, l1, b2]
 have b2 : ¬ (p.ws.length : Int) > 8 := by omega
 by_cases l3 : p.ms.length ≤ 10
 case neg =>
  have b3 : (p.ms.length : Int) > 10 := by omega
  simp only [l1, b2, b3, List.length_map, RN, qA, qB, qC, qD, qE, qF]
  simp [Piece.ok, Piece.lensOk, l1, b2, b3]
 have b3 : ¬ (p.ms.length : Int) > 10 := by omega
 simp only [l1, b2, b3, List.length_map, RN, qA, qB, qC, qD, qE, qF]
 have hlens : p.lensOk = true := by simp [Piece.lensOk, l1, b2, b3]
 have hok : p.ok = (ptsOk p.w p.h [] p.cs && mssOk p.ws.length [] p.ms && p.ws.all (whOk p.cs.length)) := by simp [Piece.ok, hh, hlens]
 rw [hok]
 refine pwp_range p.cs.length (fun i (_ : Unit) => ⟨[(1, .d (.cptr p.cells)), (3, .d (.int .i64 i))], ⟨[some (p.cells.map .d)], [0], []⟩⟩)
  (fun i _ => ptsOk p.w p.h [] p.cs = ptsOk p.w p.h (p.cs.take i) (p.cs.drop i)) 0 () (Nat.zero_le _) rfl (by simp) (fun i _ g1 hix => ?_) (fun _ hix => ?_)
 ·obtain ⟨g2, g3, g6⟩ := rng g1 (by omega)
  rw [drop_cons g1, ptsOk, ← take_snoc g1] at hix
  simp only [Piece.cells, g2, g3, g1, getD_map, Int.toNat_natCast, List.length_map, dv_Pt, List.not_mem_nil, RN, qA, qB, qC, qD, qE, qF]
  have hci : p.cs.getD i default = p.cs.getD i default := rfl
  generalize hcg : p.cs.getD i default = c at *
  refine call_d rfl rfl (rin_c _ _ _) ?_
  by_cases x1 : inR c.x 0 p.w = true
  case neg =>
   have x1' : inR c.x 0 p.w = false := by simpa using x1
   simp only [x1', RN, qA, qB, qC, qD, qE, qF]
   simp [hix, x1']
  simp only [x1, RN, qA, qB, qC, qD, qE, qF]
  refine call_d rfl rfl (rin_c _ _ _) ?_
  by_cases x2 : inR c.y 0 p.h = true
  case neg =>
   have x2' : inR c.y 0 p.h = false := by simpa using x2
   simp only [x2', RN, qA, qB, qC, qD, qE, qF]
   simp [hix, x2']
  simp only [x2, RN, qA, qB, qC, qD, qE, qF]
  rw [x1, x2, Bool.true_and, Bool.true_and] at hix
  refine pwp_range i (fun k (_ : Unit) => ⟨[(1, .d (.cptr p.cells)), (3, .d (.int .i64 i)), (4, .d (.cptr [.int .i64 c.x, .int .i64 c.y])), (5, .d (.int .i64 k))], ⟨[some (p.cells.map .d), some [.d (.int .i64 c.x), .d (.int .i64 c.y)]], [1, 0], []⟩⟩)
   (fun k _ => c ∉ p.cs.take k) 0 () (Nat.zero_le _) rfl (by simp) (fun k _ e1 hk => ?_) (fun _ hk => ?_)
  ·obtain ⟨e2, e3, e6⟩ := rng e1 (by omega)
   have e1' : k < p.cs.length := by omega
   simp only [Piece.cells, e2, e3, e1', getD_map, Int.toNat_natCast, List.length_map, dv_Pt, RN, qA, qB, qC, qD, qE, qF]
   rw [ev_binA (cellsEq_pt _ _)]
   by_cases he : p.cs.getD k default = c
   ·rw [decide_eq_true he]
    have hx : (true != false) = true := rfl
    have hmem : c ∈ p.cs.take i := by
     rw [← he, List.getD_eq_getElem?_getD, List.getElem?_eq_getElem e1']
     exact List.mem_take_iff_getElem.2 ⟨k, by omega, rfl⟩
    simp only [hx, RN, qA, qB, qC, qD, qE, qF]
    simp [hix, hmem]
   ·rw [decide_eq_false he]
    have hx : (false != false) = false := rfl
    simp only [hx, e6, RN, qA, qB, qC, qD, qE, qF]
    exact up_same () e1 rfl (by rw [take_snoc e1']; simp only [List.mem_append, List.mem_singleton, not_or]; exact ⟨hk, fun h => he h.symm⟩) (by simp) (by simp) rfl rfl
  ·have hcn : (p.cs.take i).contains c = false := by simpa using hk
   rw [hcn, Bool.not_false, Bool.true_and] at hix
   simp only [Int.lt_irrefl, g6, RN, qA, qB, qC, qD, qE, qF]
   exact up_take 1 0 () g1 rfl hix (by simp) (by simp) rfl rfl
 ·rw [List.drop_length, ptsOk] at hix
  simp only [Piece.cells, Int.lt_irrefl, List.length_map, RN, qA, qB, qC, qD, qE, qF]
  rw [hix, Bool.true_and]
  refine pwp_range p.ws.length (fun i (_ : Unit) => ⟨[(1, .d (.cptr p.cells)), (6, .d (.int .i64 i))], ⟨[some (p.cells.map .d)], [0], []⟩⟩)
   (fun i _ => p.ws.all (whOk p.cs.length) = (p.ws.drop i).all (whOk p.cs.length)) 0 () (Nat.zero_le _) rfl (by simp) (fun i _ g1 hjx => ?_) (fun _ hjx => ?_)
  ·obtain ⟨g2, g3, g6⟩ := rng g1 (by omega)
   have wl : IntKind.i64.wrap ((p.cs.length : Int) - 1) = (p.cs.length : Int) - 1 := w64_in (by omega)
   rw [drop_cons g1, List.all_cons] at hjx
   simp only [Piece.cells, g2, g3, g1, getD_map, Int.toNat_natCast, List.length_map, dv_Wh, List.not_mem_nil, wl, RN, qA, qB, qC, qD, qE, qF]
   generalize p.ws.getD i default = w at *
   refine call_d rfl rfl (rin_c _ _ _) ?_
   by_cases x1 : inR w.centre 0 ((p.cs.length : Int) - 1) = true
   case neg =>
    have x1' := eq_false_of_ne_true x1
    simp only [x1', RN, qA, qB, qC, qD, qE, qF]
    simp [hjx, whOk, x1']
   simp only [x1, RN, qA, qB, qC, qD, qE, qF]
   refine call_d rfl rfl (rin_c _ _ _) ?_
   by_cases x2 : inR w.sleeve 0 2 = true
   case neg =>
    have x2' := eq_false_of_ne_true x2
    simp only [x2', RN, qA, qB, qC, qD, qE, qF]
    simp [hjx, whOk, x2']
   simp only [x2, RN, qA, qB, qC, qD, qE, qF]
   refine call_d rfl rfl (rin_c _ _ _) ?_
   by_cases x3 : inR w.layer 0 5 = true
   case neg =>
    have x3' := eq_false_of_ne_true x3
    simp only [x3', RN, qA, qB, qC, qD, qE, qF]
    simp [hjx, whOk, x3']
   simp only [x3, RN, qA, qB, qC, qD, qE, qF]
   refine call_d rfl rfl (rin_c _ _ _) ?_
   by_cases x4 : inR w.teeth 4 50 = true
   case neg =>
    have x4' := eq_false_of_ne_true x4
    simp only [x4', RN, qA, qB, qC, qD, qE, qF]
    simp [hjx, whOk, x4']
   simp only [x4, g6, RN, qA, qB, qC, qD, qE, qF]
   exact up_take 1 0 () g1 rfl (by rw [hjx]; simp [whOk, x1, x2, x3, x4]) (by simp) (by simp) rfl rfl
  rw [List.drop_length, List.all_nil] at hjx
  rw [hjx, Bool.and_true]
  simp only [Piece.cells, Int.lt_irrefl, List.length_map, RN, qA, qB, qC, qD, qE, qF]
  refine pwp_range p.ms.length (fun i (_ : Unit) => ⟨[(1, .d (.cptr p.cells)), (8, .d (.int .i64 i))], ⟨[some (p.cells.map .d)], [0], []⟩⟩)
   (fun i _ => mssOk p.ws.length [] p.ms = mssOk p.ws.length (p.ms.take i) (p.ms.drop i)) 0 () (Nat.zero_le _) rfl (by simp) (fun i _ g1 hkx => ?_) (fun _ hkx => ?_)
  ·obtain ⟨g2, g3, g6⟩ := rng g1 (by omega)
   have hwc : ∀ n, Pure C F.ref_Wheel [.agg p.cells, .int .i64 n] (.d (.bool (inR n 0 (p.ws.length - 1)))) [] := fun n => by
    have := rWheel_c p n (by omega)
    rw [dv_Piece] at this
    exact this
   rw [drop_cons g1, mssOk, ← take_snoc g1] at hkx
   simp only [Piece.cells, g2, g3, g1, getD_map, Int.toNat_natCast, List.length_map, dv_Ms, List.not_mem_nil, RN, qA, qB, qC, qD, qE, qF]
   generalize p.ms.getD i default = c at *
   refine call_d rfl rfl (hwc _) ?_
   by_cases x1 : inR c.a 0 ((p.ws.length : Int) - 1) = true
   case neg =>
    have x1' := eq_false_of_ne_true x1
    simp only [x1', RN, qA, qB, qC, qD, qE, qF]
    simp [hkx, x1']
   simp only [x1, RN, qA, qB, qC, qD, qE, qF]
   refine call_d rfl rfl (hwc _) ?_
   by_cases x2 : inR c.b 0 ((p.ws.length : Int) - 1) = true
   case neg =>
    have x2' := eq_false_of_ne_true x2
    simp only [x2', RN, qA, qB, qC, qD, qE, qF]
    simp [hkx, x2']
   by_cases x3 : c.a ≥ c.b
   case pos =>
    simp only [x2, x3, RN, qA, qB, qC, qD, qE, qF]
    rw [hkx, decide_eq_true x3]
    simp
   simp only [x2, x3, RN, qA, qB, qC, qD, qE, qF]
   rw [x1, x2, decide_eq_false x3, Bool.not_false, Bool.true_and, Bool.true_and, Bool.true_and] at hkx
   refine pwp_range i (fun k (_ : Unit) => ⟨[(1, .d (.cptr p.cells)), (8, .d (.int .i64 i)), (9, .d (.cptr [.int .i64 c.a, .int .i64 c.b])), (10, .d (.int .i64 k))], ⟨[some (p.cells.map .d), some [.d (.int .i64 c.a), .d (.int .i64 c.b)]], [1, 0], []⟩⟩)
    (fun k _ => c ∉ p.ms.take k) 0 () (Nat.zero_le _) rfl (by simp) (fun k _ e1 hk => ?_) (fun _ hk => ?_)
   ·obtain ⟨e2, e3, e6⟩ := rng e1 (by omega)
    have e1' : k < p.ms.length := by omega
    simp only [Piece.cells, e2, e3, e1', getD_map, Int.toNat_natCast, List.length_map, dv_Ms, RN, qA, qB, qC, qD, qE, qF]
    rw [ev_binA (cellsEq_ms _ _)]
    by_cases he : p.ms.getD k default = c
    ·rw [decide_eq_true he]
     have hx : (true != false) = true := rfl
     have hmem : c ∈ p.ms.take i := by
      rw [← he, List.getD_eq_getElem?_getD, List.getElem?_eq_getElem e1']
      exact List.mem_take_iff_getElem.2 ⟨k, by omega, rfl⟩
     simp only [hx, RN, qA, qB, qC, qD, qE, qF]
     simp [hkx, hmem]
    ·rw [decide_eq_false he]
     have hx : (false != false) = false := rfl
     simp only [hx, e6, RN, qA, qB, qC, qD, qE, qF]
     exact up_same () e1 rfl (by rw [take_snoc e1']; simp only [List.mem_append, List.mem_singleton, not_or]; exact ⟨hk, fun h => he h.symm⟩) (by simp) (by simp) rfl rfl
   ·have hcn : (p.ms.take i).contains c = false := by simpa using hk
    rw [hcn, Bool.not_false, Bool.true_and] at hkx
    simp only [Int.lt_irrefl, g6, RN, qA, qB, qC, qD, qE, qF]
    exact up_take 1 0 () g1 rfl hkx (by simp) (by simp) rfl rfl
  ·rw [List.drop_length, mssOk] at hkx
   simp only [Piece.cells, Int.lt_irrefl, List.length_map, RN, qA, qB, qC, qD, qE, qF]
   rw [hkx]
end Go.Tel
open Nat renaming reduceBEq → qA, reduceAdd → qB, reduceSub → qC, reduceEqDiff → qD, reduceLT → qE, reduceLeDiff → qF
namespace Go.Tel
open Go.Am
def Piece.rmeshed (p : Piece) (a b : Int) : Bool := p.ms.any fun m => (m.a == a && m.b == b) || (m.a == b && m.b == a)
def rfold (o : Wh) : List Wh → Int × Int → Int × Int
 | [], r => r
 | w :: l, r => rfold o l (if w.centre == o.centre && w.sleeve == o.sleeve then (min r.1 w.layer, max r.2 w.layer) else r)
def Piece.rwithin (p : Piece) (i o : Int) : Bool :=
 decide ((p.wh i).sleeve < (p.wh o).sleeve) && decide ((p.wh i).layer > (rfold (p.wh o) p.ws ((p.wh o).layer, (p.wh o).layer)).1) && decide ((p.wh i).layer < (rfold (p.wh o) p.ws ((p.wh o).layer, (p.wh o).layer)).2)
def Piece.rnear (p : Piece) (a b n : Int) : Bool := decide (p.far a b < n * n)
def Piece.rmeets (p : Piece) (a b : Int) : Int :=
 if a = b then (if p.edged a then 1 else 0)
 else if p.rmeshed a b && (!p.level a b || p.centred a b || p.rnear a b (p.sum a b) || decide (p.far a b > (p.sum a b + p.pl) * (p.sum a b + p.pl))) then 2
 else if !p.rmeshed a b && p.level a b && !p.centred a b && p.rnear a b (p.sum a b + p.ga) then 3
 else if p.centred a b && p.level a b then 4
 else if p.centred a b && (p.rwithin a b || p.rwithin b a) then 5
 else if !p.centred a b && (decide ((p.wh a).layer ≤ (p.wh b).layer) && p.rnear a b ((p.wh a).teeth + p.po) || decide ((p.wh b).layer ≤ (p.wh a).layer) && p.rnear a b ((p.wh b).teeth + p.po)) then 6
 else 0
def ptFar (a b : Pt) : Int := (a.x - b.x) * (a.x - b.x) + (a.y - b.y) * (a.y - b.y)
def Pt.inB (a : Pt) : Prop := 0 ≤ a.x ∧ a.x ≤ 1000 ∧ 0 ≤ a.y ∧ a.y ≤ 1000
set_option maxRecDepth 10000 in
theorem rFar_c (a b : Pt) (ha : a.inB) (hb : b.inB) : Pure C F.ref_Far [a.dv, b.dv] (.d (.int .i64 (ptFar a b))) [] := by
 obtain ⟨a1, a2, a3, a4⟩ := ha
 obtain ⟨b1, b2, b3, b4⟩ := hb
 have x := sq_bd (n := a.x - b.x) (k := 1000) (by omega)
 have y := sq_bd (n := a.y - b.y) (k := 1000) (by omega)
 have w1 : IntKind.i64.wrap (a.x - b.x) = a.x - b.x := w64_in (by omega)
 have w2 : IntKind.i64.wrap (a.y - b.y) = a.y - b.y := w64_in (by omega)
 have w3 : IntKind.i64.wrap ((a.x - b.x) * (a.x - b.x)) = (a.x - b.x) * (a.x - b.x) := w64_in (by omega)
 have w4 : IntKind.i64.wrap ((a.y - b.y) * (a.y - b.y)) = (a.y - b.y) * (a.y - b.y) := w64_in (by omega)
 have w5 : IntKind.i64.wrap ((a.x - b.x) * (a.x - b.x) + (a.y - b.y) * (a.y - b.y)) = (a.x - b.x) * (a.x - b.x) + (a.y - b.y) * (a.y - b.y) := w64_in (by omega)
 refine pure_of_pwp_d mixed rfl ok_ref_Far ?_
 simp only [pc_ref_Far, rs_ref_Far, dv_Pt, w1, w2, w3, w4, w5, RN, qA, qB, qC, qD, qE, qF]
 rw [ptFar]
set_option maxRecDepth 10000 in
theorem rfar_c (p : Piece) (hg : p.good) (a b : Int) (ha : p.isW a) (hb : p.isW b) : Pure C F.ref_far [p.dv, .int .i64 a, .int .i64 b] (.d (.int .i64 (p.far a b))) [] := by
 have xa := good_pt hg ha
 have xb := good_pt hg hb
 obtain ⟨⟨a3, a4⟩, _⟩ := good_wh hg ha
 obtain ⟨⟨b3, b4⟩, _⟩ := good_wh hg hb
 obtain ⟨a1, a2⟩ := ha
 obtain ⟨b1, b2⟩ := hb
 have hf := rFar_c (p.cs.getD (p.ws.getD a.toNat default).centre.toNat default) (p.cs.getD (p.ws.getD b.toNat default).centre.toNat default) xa xb
 rw [dv_Pt, dv_Pt] at hf
 refine pure_of_pwp_d mixed rfl ok_ref_far ?_
 simp only [pc_ref_far, rs_ref_far, dv_Piece, dv_Pt, dv_Wh, getD_map, a1, a2, a3, a4, b1, b2, b3, b4, List.length_map, RN, qA, qB, qC, qD, qE, qF]
 refine call_d rfl rfl hf ?_
 simp only [Piece.far, Piece.pt, Piece.wh, sq, ptFar]
set_option maxRecDepth 10000 in
theorem rnear_c (p : Piece) (hg : p.good) (a b : Int) (ha : p.isW a) (hb : p.isW b) (n : Int) (hn : -10000 ≤ n ∧ n ≤ 10000) : Pure C F.ref_near [p.dv, .int .i64 a, .int .i64 b, .int .i64 n] (.d (.bool (p.rnear a b n))) [] := by
 have x := sq_bd (n := n) (k := 10000) (by omega)
 have w1 : IntKind.i64.wrap (n * n) = n * n := w64_in (by omega)
 have hf := rfar_c p hg a b ha hb
 rw [dv_Piece] at hf
 refine pure_of_pwp_d mixed rfl ok_ref_near ?_
 simp only [pc_ref_near, rs_ref_near, dv_Piece, RN, qA, qB, qC, qD, qE, qF]
 refine call_d rfl rfl hf ?_
 simp only [w1, RN, qA, qB, qC, qD, qE, qF]
 rw [Piece.rnear]
set_option maxRecDepth 10000 in
theorem rMeshed_c (p : Piece) (a b : Int) (hl : p.ms.length ≤ 1000) : Pure C F.ref_Meshed [p.dv, .int .i64 a, .int .i64 b] (.d (.bool (p.rmeshed a b))) [] := by
 refine pure_of_pwp_d mixed rfl ok_ref_Meshed ?_
 simp only [pc_ref_Meshed, rs_ref_Meshed, dv_Piece, RN, qA, qB, qC, qD, qE, qF]
 refine pwp_range p.ms.length (fun i (_ : Unit) => ⟨[(1, .d (.int .i64 a)), (2, .d (.int .i64 b)), (3, .d (.cptr p.cells)), (7, .d (.int .i64 i))], ⟨[some (p.cells.map .d)], [0], []⟩⟩)
  (fun i _ => p.rmeshed a b = ((p.ms.drop i).any fun m => (m.a == a && m.b == b) || (m.a == b && m.b == a))) 0 () (Nat.zero_le _) rfl rfl (fun i _ g1 hix => ?_) (fun _ hix => ?_)
 ·obtain ⟨g2, g3, g6⟩ := rng g1 (by omega)
  rw [drop_cons g1, List.any_cons] at hix
  simp only [Piece.cells, g2, g3, g1, getD_map, Int.toNat_natCast, List.length_map, dv_Ms, List.not_mem_nil, RN, qA, qB, qC, qD, qE, qF]
  generalize p.ms.getD i default = m at *
  have key : ∀ t : Bool, t = ((m.a == a && m.b == b) || (m.a == b && m.b == a)) → p.rmeshed a b = (t || ((p.ms.drop (i + 1)).any fun m => (m.a == a && m.b == b) || (m.a == b && m.b == a))) := fun t ht => by rw [hix, ht]
  clear hix
  repeat' first
   | (refine guard_split (by rfl) (fun hB => ?_) (fun hB => ?_) <;> simp only [hB, List.not_mem_nil, g6, RN, qA, qB, qC, qD, qE, qF])
   | (refine cond_split (by rfl) (fun hB => ?_) (fun hB => ?_) <;> simp only [hB, List.not_mem_nil, g6, RN, qA, qB, qC, qD, qE, qF])
  all_goals first
   | (rw [key true (by simp_all)]; rfl)
   | (exact up_take 1 0 () g1 rfl (by rw [key false (by simp_all), Bool.false_or]) (by simp) (by simp) rfl rfl)
 ·rw [List.drop_length, List.any_nil] at hix
  simp only [Piece.cells, Int.lt_irrefl, List.length_map, RN, qA, qB, qC, qD, qE, qF]
  rw [hix]
def Wh.cells (w : Wh) : List DV := [.int .i64 w.centre, .int .i64 w.sleeve, .int .i64 w.layer, .int .i64 w.teeth]
set_option maxRecDepth 10000 in
set_option maxHeartbeats 1000000 in
theorem rwithin_c (p : Piece) (hg : p.good) (a b : Int) (ha : p.isW a) (hb : p.isW b) : Pure C F.ref_within [p.dv, .int .i64 a, .int .i64 b] (.d (.bool (p.rwithin a b))) [] := by
 have hlw := hg.lw
 have gb := good_wh hg hb
 obtain ⟨a1, a2⟩ := id ha
 obtain ⟨b1, b2⟩ := id hb
 refine pure_of_pwp_d mixed rfl ok_ref_within ?_
 simp only [pc_ref_within, rs_ref_within, dv_Piece, dv_Wh, getD_map, a1, a2, b1, b2, List.length_map, List.not_mem_nil, RN, qA, qB, qC, qD, qE, qF]
 refine pwp_range p.ws.length (fun i (r : Int × Int) => ⟨[(3, .d (.cptr p.cells)), (7, .d (.cptr (p.wh a).cells)), (8, .d (.cptr (p.wh b).cells)), (9, .d (.int .i64 r.1)), (10, .d (.int .i64 r.2)), (11, .d (.int .i64 i))],
   ⟨[some (p.cells.map .d), some ((p.wh a).cells.map .d), some ((p.wh b).cells.map .d)], [2, 1, 0], []⟩⟩)
  (fun i r => rfold (p.wh b) p.ws ((p.wh b).layer, (p.wh b).layer) = rfold (p.wh b) (p.ws.drop i) r) 0 ((p.wh b).layer, (p.wh b).layer) (Nat.zero_le _) rfl rfl (fun i r g1 hix => ?_) (fun r hix => ?_)
 ·obtain ⟨g2, g3, g6⟩ := rng g1 (by omega)
  rw [drop_cons g1, rfold] at hix
  simp only [Piece.cells, Wh.cells, g2, g3, g1, getD_map, Int.toNat_natCast, List.length_map, dv_Wh, List.not_mem_nil, RN, qA, qB, qC, qD, qE, qF]
  generalize p.ws.getD i default = w at *
  by_cases h1 : w.centre = (p.wh b).centre
  ·have e1 : (w.centre == (p.wh b).centre) = true := beq_iff_eq.2 h1
   by_cases h2 : w.sleeve = (p.wh b).sleeve
   ·have e2 : (w.sleeve == (p.wh b).sleeve) = true := beq_iff_eq.2 h2
    rw [e1, e2, Bool.and_self, if_pos rfl] at hix
    simp only [e1, e2, g6, minmax_m, minmax_M, List.not_mem_nil, RN, qA, qB, qC, qD, qE, qF]
    exact up_take 3 0 (min r.1 w.layer, max r.2 w.layer) g1 rfl hix (by simp) (by simp) rfl rfl
   ·have e2 : (w.sleeve == (p.wh b).sleeve) = false := beq_eq_false_iff_ne.2 h2
    rw [e1, e2, Bool.and_false] at hix
    rw [if_neg (by decide)] at hix
    simp only [e1, e2, g6, List.not_mem_nil, RN, qA, qB, qC, qD, qE, qF]
    exact up_take 3 0 r g1 rfl hix (by simp) (by simp) rfl rfl
  ·have e1 : (w.centre == (p.wh b).centre) = false := beq_eq_false_iff_ne.2 h1
   rw [e1, Bool.false_and] at hix
   rw [if_neg (by decide)] at hix
   simp only [e1, g6, List.not_mem_nil, RN, qA, qB, qC, qD, qE, qF]
   exact up_take 3 0 r g1 rfl hix (by simp) (by simp) rfl rfl
 ·rw [List.drop_length, rfold] at hix
  simp only [Piece.cells, Wh.cells, Int.lt_irrefl, List.length_map, List.not_mem_nil, RN, qA, qB, qC, qD, qE, qF]
  repeat' first
   | (refine guard_split (by rfl) (fun hB => ?_) (fun hB => ?_) <;> simp only [hB, List.not_mem_nil, RN, qA, qB, qC, qD, qE, qF])
   | (refine cond_split (by rfl) (fun hB => ?_) (fun hB => ?_) <;> simp only [hB, List.not_mem_nil, RN, qA, qB, qC, qD, qE, qF])
  all_goals (clear gb; simp only [Piece.rwithin, hix]; simp_all <;> (intros; omega))
set_option maxRecDepth 10000 in
set_option maxHeartbeats 4000000 in
theorem rMeets_c (p : Piece) (hg : p.good) (hl : p.ms.length ≤ 1000) (a b : Int) (ha : p.isW a) (hb : p.isW b) : Pure C F.ref_Meets [p.dv, .int .i64 a, .int .i64 b] (.d (.int .i64 (p.rmeets a b))) [] := by
 have xa := good_pt hg ha
 obtain ⟨⟨a3, a4⟩, t1, t2, _⟩ := good_wh hg ha
 obtain ⟨⟨b3, b4⟩, t3, t4, _⟩ := good_wh hg hb
 obtain ⟨a1, a2⟩ := id ha
 obtain ⟨b1, b2⟩ := id hb
 have hpl := hg.pl
 have hga := hg.ga
 have hpo := hg.po
 have hm := rMeshed_c p a b hl
 have hf := rfar_c p hg a b ha hb
 have hn := rnear_c p hg a b ha hb
 have h1 := rwithin_c p hg a b ha hb
 have h2 := rwithin_c p hg b a hb ha
 rw [dv_Piece] at hm hf hn h1 h2
 refine pure_of_pwp_d mixed rfl ok_ref_Meets ?_
 simp only [pc_ref_Meets, rs_ref_Meets, dv_Piece, dv_Wh, dv_Pt, getD_map, a1, a2, b1, b2, a3, a4, List.length_map, List.not_mem_nil, RN, qA, qB, qC, qD, qE, qF]
 have w1 : IntKind.i64.wrap ((p.ws.getD a.toNat default).teeth + (p.ws.getD b.toNat default).teeth) = p.sum a b := w64_in (by omega)
 have sb : 0 ≤ p.sum a b ∧ p.sum a b ≤ 2000 := by simp only [Piece.sum, Piece.wh]; omega
 have w2 : IntKind.i64.wrap (p.sum a b + p.pl) = p.sum a b + p.pl := w64_in (by omega)
 have w3 : IntKind.i64.wrap (p.sum a b + p.ga) = p.sum a b + p.ga := w64_in (by omega)
 have w4 : IntKind.i64.wrap ((p.ws.getD a.toNat default).teeth + p.po) = (p.ws.getD a.toNat default).teeth + p.po := w64_in (by omega)
 have w5 : IntKind.i64.wrap ((p.ws.getD b.toNat default).teeth + p.po) = (p.ws.getD b.toNat default).teeth + p.po := w64_in (by omega)
 have x := sq_bd (n := p.sum a b + p.pl) (k := 10000) (by omega)
 have w6 : IntKind.i64.wrap ((p.sum a b + p.pl) * (p.sum a b + p.pl)) = (p.sum a b + p.pl) * (p.sum a b + p.pl) := w64_in (by omega)
 have w7 : IntKind.i64.wrap ((p.cs.getD (p.ws.getD a.toNat default).centre.toNat default).x + (p.ws.getD a.toNat default).teeth) = (p.cs.getD (p.ws.getD a.toNat default).centre.toNat default).x + (p.ws.getD a.toNat default).teeth := w64_in (by omega)
 have w8 : IntKind.i64.wrap ((p.cs.getD (p.ws.getD a.toNat default).centre.toNat default).y + (p.ws.getD a.toNat default).teeth) = (p.cs.getD (p.ws.getD a.toNat default).centre.toNat default).y + (p.ws.getD a.toNat default).teeth := w64_in (by omega)
 by_cases hab : a = b
 ·have e1 : (a == b) = true := beq_iff_eq.2 hab
  simp only [e1, dv_Wh, dv_Pt, getD_map, a3, a4, List.length_map, List.not_mem_nil, RN, qA, qB, qC, qD, qE, qF]
  repeat' first
   | (refine guard_split (by rfl) (fun hB => ?_) (fun hB => ?_) <;> simp only [hB, w7, w8, RN, qA, qB, qC, qD, qE, qF])
   | (refine cond_split (by rfl) (fun hB => ?_) (fun hB => ?_) <;> simp only [hB, w7, w8, RN, qA, qB, qC, qD, qE, qF])
  all_goals (rw [Piece.rmeets, if_pos hab]; simp_all [Piece.edged, Piece.pt, Piece.wh])
 have e1 : (a == b) = false := beq_eq_false_iff_ne.2 hab
 simp only [e1, w1, RN, qA, qB, qC, qD, qE, qF]
 repeat' first
  | (refine call_d rfl rfl (hm) ?_; try simp only [w1, w2, w3, w4, w5, w6, RN, qA, qB, qC, qD, qE, qF])
  | (refine call_d rfl rfl (hf) ?_; try simp only [w1, w2, w3, w4, w5, w6, RN, qA, qB, qC, qD, qE, qF])
  | (refine call_d rfl rfl (hn _ (by omega)) ?_; try simp only [w1, w2, w3, w4, w5, w6, RN, qA, qB, qC, qD, qE, qF])
  | (refine call_d rfl rfl (h1) ?_; try simp only [w1, w2, w3, w4, w5, w6, RN, qA, qB, qC, qD, qE, qF])
  | (refine call_d rfl rfl (h2) ?_; try simp only [w1, w2, w3, w4, w5, w6, RN, qA, qB, qC, qD, qE, qF])
  | (refine guard_split (by rfl) (fun hB => ?_) (fun hB => ?_) <;> simp only [hB, w1, w2, w3, w4, w5, w6, RN, qA, qB, qC, qD, qE, qF])
  | (refine cond_split (by rfl) (fun hB => ?_) (fun hB => ?_) <;> simp only [hB, w1, w2, w3, w4, w5, w6, RN, qA, qB, qC, qD, qE, qF])
 all_goals clear hm hf hn h1 h2 w1 w2 w3 w4 w5 w6 w7 w8 x xa
 all_goals (rw [Piece.rmeets, if_neg hab]; simp_all [Piece.level, Piece.centred, Piece.wh] <;> (intros; omega))
end Go.Tel
namespace Go.Tel
open Go.Am
theorem mssOk_lt {n : Int} : ∀ {pre ms : List Ms}, mssOk n pre ms = true → ∀ m ∈ ms, 0 ≤ m.a ∧ m.a < m.b ∧ m.b ≤ n - 1
 | _, [], _, m, h => by cases h
 | pre, x :: ms, h, m, hm => by
  simp only [mssOk, inR, Bool.and_eq_true, decide_eq_true_eq, Bool.not_eq_true', decide_eq_false_iff_not, ge_iff_le] at h
  rcases List.mem_cons.1 hm with rfl | hm
  ·omega
  ·exact mssOk_lt h.2 m hm
theorem ok_mss {p : Piece} (h : p.ok = true) : ∀ m ∈ p.ms, 0 ≤ m.a ∧ m.a < m.b ∧ m.b ≤ p.ws.length - 1 := by
 simp only [Piece.ok, Bool.and_eq_true] at h
 exact mssOk_lt h.1.2
theorem mesh_same {p : Piece} (h : ∀ m ∈ p.ms, m.a < m.b) (a b : Int) : p.mesh a b = p.rmeshed a b := by
 rw [Bool.eq_iff_iff, Piece.mesh, List.contains_iff_mem, Piece.rmeshed, List.any_eq_true]
 constructor
 ·intro hm
  refine ⟨_, hm, ?_⟩
  simp only [Bool.or_eq_true, Bool.and_eq_true, beq_iff_eq]
  omega
 ·rintro ⟨⟨x, y⟩, hm, he⟩
  have := h _ hm
  simp only [Bool.or_eq_true, Bool.and_eq_true, beq_iff_eq] at he this
  have e : (⟨min a b, max a b⟩ : Ms) = ⟨x, y⟩ := by
   rw [Ms.mk.injEq]; omega
  rw [e]; exact hm
theorem bounds_same (p : Piece) (o : Int) : ∀ (ws : List Wh) (i : Nat) (r : Int × Int), p.ws.drop i = ws → p.bounds [] o i ws r = rfold (p.wh o) ws r
 | [], _, _, _ => rfl
 | w :: ws, i, r, h => by
  have hi : i < p.ws.length := by
   refine Nat.lt_of_not_le fun hh => ?_
   rw [List.drop_of_length_le hh] at h
   cases h
  have h2 := drop_cons hi
  rw [h] at h2
  obtain ⟨hw, ht⟩ := List.cons.inj h2
  have hwi : p.wh (i : Int) = w := by rw [Piece.wh, Int.toNat_natCast, ← hw]
  rw [Piece.bounds, rfold, bounds_same p o ws (i + 1) _ ht.symm]
  congr 1
  simp only [Piece.sleeved, Piece.centred, hwi, List.contains_nil, Bool.not_false, Bool.and_true]
theorem far_comm (p : Piece) (a b : Int) : p.far b a = p.far a b := by
 have e : ∀ x y : Int, sq (x - y) = sq (y - x) := fun x y => by
  rw [sq, sq, ← Int.neg_sub y x, Int.neg_mul_neg]
 rw [Piece.far, Piece.far, e (p.pt b).x, e (p.pt b).y]
theorem nested_same (p : Piece) (a b : Int) (hc : p.centred a b = true) (hl : p.level a b = false) : p.nested [] a b = (p.rwithin a b || p.rwithin b a) := by
 have e : ∀ o r, p.bounds [] o 0 p.ws r = rfold (p.wh o) p.ws r := fun o r => bounds_same p o p.ws 0 r rfl
 rw [Piece.nested]
 rcases Int.lt_trichotomy (p.wh a).sleeve (p.wh b).sleeve with h | h | h
 ·have hs : p.sleeved a b = false := by rw [Piece.sleeved, hc, Bool.true_and, beq_eq_false_iff_ne]; omega
  have h1 : ¬ (p.wh a).sleeve > (p.wh b).sleeve := by omega
  rw [hc, hs, hl, if_neg (by decide)]
  simp only [if_neg h1, e]
  rw [Bool.eq_iff_iff]
  simp only [inR, Piece.rwithin, Bool.or_eq_true, Bool.and_eq_true, decide_eq_true_eq]
  omega
 ·have hs : p.sleeved a b = true := by rw [Piece.sleeved, hc, Bool.true_and, beq_iff_eq]; exact h
  rw [hs]
  have h1 : ¬ (p.wh a).sleeve < (p.wh b).sleeve := by omega
  have h2 : ¬ (p.wh b).sleeve < (p.wh a).sleeve := by omega
  simp [Piece.rwithin, h1, h2]
 ·have hs : p.sleeved a b = false := by rw [Piece.sleeved, hc, Bool.true_and, beq_eq_false_iff_ne]; omega
  rw [hc, hs, hl, if_neg (by decide)]
  simp only [if_pos h, e]
  rw [Bool.eq_iff_iff]
  simp only [inR, Piece.rwithin, Bool.or_eq_true, Bool.and_eq_true, decide_eq_true_eq]
  omega
theorem wrong_same {p : Piece} (h : ∀ m ∈ p.ms, m.a < m.b) (a b : Int) : p.wrong [] a b = p.rmeets a b := by
 rw [Piece.wrong, Piece.rmeets]
 by_cases hab : a = b
 ·rw [if_pos hab, if_pos hab]
 rw [if_neg hab, if_neg hab]
 have e1 : p.apart a b = (p.rmeshed a b && (!p.level a b || p.centred a b || p.rnear a b (p.sum a b) || decide (p.far a b > (p.sum a b + p.pl) * (p.sum a b + p.pl)))) := by
  rw [Piece.apart, mesh_same h]; rfl
 have e2 : p.touch a b = (!p.rmeshed a b && p.level a b && !p.centred a b && p.rnear a b (p.sum a b + p.ga)) := by
  rw [Piece.touch, mesh_same h]; rfl
 rw [e1, e2]
 split
 ·rfl
 split
 ·rfl
 rw [Piece.same]
 split
 ·rfl
 rename_i hcl
 have e5 : p.nested [] a b = (p.centred a b && (p.rwithin a b || p.rwithin b a)) := by
  cases hc : p.centred a b
  ·simp [Piece.nested, hc]
  ·rw [Bool.true_and]
   refine nested_same p a b hc ?_
   cases hl : p.level a b
   ·rfl
   ·rw [hc, hl] at hcl; exact absurd rfl hcl
 have e6 : p.posted a b = (!p.centred a b && (decide ((p.wh a).layer ≤ (p.wh b).layer) && p.rnear a b ((p.wh a).teeth + p.po) || decide ((p.wh b).layer ≤ (p.wh a).layer) && p.rnear a b ((p.wh b).teeth + p.po))) := by
  rw [Piece.posted, Piece.post, Piece.post, far_comm p a b]; rfl
 rw [e5, e6]
end Go.Tel
open Nat renaming reduceBEq → qA, reduceAdd → qB, reduceSub → qC, reduceEqDiff → qD, reduceLT → qE, reduceLeDiff → qF
namespace Go.Tel
open Go.Am
theorem range_getD {n i : Nat} (h : i < n) : (List.range n).getD i default = i := by
 rw [List.getD_eq_getElem?_getD, List.getElem?_range h]; rfl
def Piece.rfltB (p : Piece) (a : Nat) (l : List Nat) : Option Flt := l.findSome? fun (b : Nat) => if p.rmeets a b = 0 then none else some ⟨a, b, p.rmeets a b⟩
def Piece.rfault (p : Piece) : Option Flt := (List.range p.ws.length).findSome? fun a => p.rfltB a ((List.range p.ws.length).drop a)
set_option maxRecDepth 10000 in
set_option maxHeartbeats 1000000 in
theorem rFault_c (p : Piece) (hg : p.good) (hm : p.ms.length ≤ 1000) : Pure C F.ref_Fault [p.dv] (.d ((p.rfault).getD default).dv) [] := by
 have hlw := hg.lw
 refine pure_of_pwp_d mixed rfl ok_ref_Fault ?_
 simp only [pc_ref_Fault, rs_ref_Fault, dv_Piece, List.not_mem_nil, RN, qA, qB, qC, qD, qE, qF]
 refine pwp_range p.ws.length (fun i (_ : Unit) => ⟨[(1, .d (.cptr p.cells)), (2, .ptr 1 0), (3, .d (.int .i64 i))], ⟨[some (p.cells.map .d), some [.d (.int .i64 0), .d (.int .i64 0), .d (.int .i64 0)]], [0], []⟩⟩)
  (fun i _ => p.rfault = ((List.range p.ws.length).drop i).findSome? fun a => p.rfltB a ((List.range p.ws.length).drop a)) 0 () (Nat.zero_le _) rfl rfl (fun i _ g1 hix => ?_) (fun _ hix => ?_)
 ·obtain ⟨g2, g3, g6⟩ := rng g1 (by omega)
  rw [drop_cons (by simpa using g1), range_getD g1, List.findSome?_cons] at hix
  simp only [Piece.cells, g2, List.length_map, RN, qA, qB, qC, qD, qE, qF]
  refine pwp_range p.ws.length (fun k (_ : Unit) => ⟨[(1, .d (.cptr p.cells)), (2, .ptr 1 0), (3, .d (.int .i64 i)), (4, .d (.int .i64 k))], ⟨[some (p.cells.map .d), some [.d (.int .i64 0), .d (.int .i64 0), .d (.int .i64 0)]], [0], []⟩⟩)
   (fun k _ => p.rfltB i ((List.range p.ws.length).drop i) = p.rfltB i ((List.range p.ws.length).drop k)) i () (by omega) rfl rfl (fun k _ f1 hkx => ?_) (fun _ hkx => ?_)
  ·obtain ⟨f2, f3, f6⟩ := rng f1 (by omega)
   rw [drop_cons (l := List.range p.ws.length) (i := k) (by simpa using f1), range_getD f1] at hkx
   have hwr := rMeets_c p hg hm i k ⟨g3, by simpa using g1⟩ ⟨f3, by simpa using f1⟩
   rw [dv_Piece] at hwr
   simp only [f2, Piece.cells, List.length_map, RN, qA, qB, qC, qD, qE, qF]
   refine call_d rfl rfl hwr ?_
   by_cases hz : p.rmeets i k = 0
   ·have hz1 : (p.rmeets i k != 0) = false := by rw [hz]; rfl
    have e : p.rfltB i (k :: (List.range p.ws.length).drop (k + 1)) = p.rfltB i ((List.range p.ws.length).drop (k + 1)) := by rw [Piece.rfltB, List.findSome?_cons, if_pos hz]; rfl
    rw [e] at hkx
    simp only [hz1, f6, RN, qA, qB, qC, qD, qE, qF]
    exact up_same () f1 rfl hkx (by simp) (by simp) rfl rfl
   ·have hz1 : (p.rmeets i k != 0) = true := bne_iff_ne.2 hz
    have e : p.rfltB i (k :: (List.range p.ws.length).drop (k + 1)) = some ⟨i, k, p.rmeets i k⟩ := by rw [Piece.rfltB, List.findSome?_cons, if_neg hz]
    rw [e] at hkx
    rw [hkx] at hix
    simp only [hz1, List.not_mem_nil, RN, qA, qB, qC, qD, qE, qF]
    rw [hix]
    rfl
  ·rw [List.drop_eq_nil_of_le (i := p.ws.length) (by simp)] at hkx
   have e : p.rfltB i [] = none := rfl
   rw [e] at hkx
   rw [hkx] at hix
   simp only [Piece.cells, Int.lt_irrefl, List.length_map, g6, RN, qA, qB, qC, qD, qE, qF]
   exact up_same () g1 rfl hix (by simp) (by simp) rfl rfl
 ·rw [List.drop_eq_nil_of_le (by simp), List.findSome?_nil] at hix
  simp only [Piece.cells, Int.lt_irrefl, List.length_map, List.not_mem_nil, RN, qA, qB, qC, qD, qE, qF]
  rw [hix]
  rfl
theorem rfault_kind {p : Piece} {f : Flt} (h : p.rfault = some f) : f.kind ≠ 0 := by
 rw [Piece.rfault] at h
 obtain ⟨a, _, ha⟩ := List.exists_of_findSome?_eq_some h
 rw [Piece.rfltB] at ha
 obtain ⟨b, _, hb⟩ := List.exists_of_findSome?_eq_some ha
 split at hb
 ·cases hb
 ·rename_i hz
  cases hb
  exact hz
theorem fs_filterMap {α β γ : Type} {f : β → Option γ} {g : α → β} : ∀ l : List α, (l.filterMap fun a => some (g a)).findSome? f = l.findSome? fun a => f (g a)
 | [] => rfl
 | a :: l => by
  have e : (a :: l).filterMap (fun a => some (g a)) = g a :: l.filterMap (fun a => some (g a)) := rfl
  rw [e, List.findSome?_cons, List.findSome?_cons, fs_filterMap l]
theorem fs_flat {α β γ : Type} {f : β → Option γ} {g : α → List β} : ∀ l : List α, (l.flatMap g).findSome? f = l.findSome? fun a => (g a).findSome? f
 | [] => rfl
 | a :: l => by
  rw [List.flatMap_cons, List.findSome?_append, List.findSome?_cons, fs_flat l]
  cases (g a).findSome? f <;> rfl
theorem fault_same {p : Piece} (h : ∀ m ∈ p.ms, m.a < m.b) : p.fault [] = p.rfault := by
 rw [Piece.fault, pairsL, fs_flat, Piece.rfault]
 congr 1
 funext a
 have e : ∀ b : Nat, (if ([] : List Int).contains (a : Int) || ([] : List Int).contains (b : Int) then none else some (a, b)) = some (a, b) := fun b => rfl
 simp only [e]
 rw [fs_filterMap, Piece.rfltB]
 simp only [wrong_same h]
theorem Fault_of {q : Piece} (hok : q.ok = true) : q.Fault = match q.rfault with | some f => (f, 0) | none => (default, 5) := by
 rw [Piece.Fault, if_pos hok, fault_same fun m hm => (ok_mss hok m hm).2.1]
 cases q.rfault <;> rfl
end Go.Tel
open Nat renaming reduceBEq → qA, reduceAdd → qB, reduceSub → qC, reduceEqDiff → qD, reduceLT → qE, reduceLeDiff → qF
namespace Go.Tel
open Go.Am
set_option maxRecDepth 10000 in
theorem Check_c (p : Piece) (hc : p.cs.length ≤ 1000) (hw : p.ws.length ≤ 1000) (hm : p.ms.length ≤ 1000) : Pure C F.plate_Check [p.dv] (.d (.int .i64 (if p.ok then 0 else 2))) [] := by
 have h1 := isPiece_c p hc hw hm
 rw [dv_Piece] at h1
 refine pure_of_pwp_d mixed rfl ok_plate_Check ?_
 simp only [pc_plate_Check, rs_plate_Check, dv_Piece, List.not_mem_nil, RN, qA, qB, qC, qD, qE, qF]
 refine call_d rfl rfl h1 ?_
 cases p.ok
 ·simp only [RN, qA, qB, qC, qD, qE, qF]; rfl
 ·simp only [RN, qA, qB, qC, qD, qE, qF]; rfl
def Piece.meets (p : Piece) (a b : Int) : Int × Int := if p.ok && inR a 0 (p.ws.length - 1) && inR b 0 (p.ws.length - 1) then (p.wrong [] a b, 0) else (0, 2)
set_option maxRecDepth 10000 in
theorem Meets_c (p : Piece) (hc : p.cs.length ≤ 1000) (hw : p.ws.length ≤ 1000) (hm : p.ms.length ≤ 1000) (a b : Int) : Pure C F.plate_Meets [p.dv, .int .i64 a, .int .i64 b] (.d (.tup [.int .i64 (p.meets a b).1, .int .i64 (p.meets a b).2])) [] := by
 have h1 := isPiece_c p hc hw hm
 have h2 := isWheel_c p a (by omega)
 have h3 := isWheel_c p b (by omega)
 have hl := lay_c p [] hm (by simp)
 rw [dv_Piece] at h1 h2 h3 hl
 refine pure_of_pwp_d mixed rfl ok_plate_Meets ?_
 simp only [pc_plate_Meets, rs_plate_Meets, dv_Piece, List.not_mem_nil, RN, qA, qB, qC, qD, qE, qF]
 refine call_d rfl rfl h1 ?_
 cases hok : p.ok
 ·simp only [RN, qA, qB, qC, qD, qE, qF]
  rw [Piece.meets, hok]; rfl
 simp only [RN, qA, qB, qC, qD, qE, qF]
 refine call_d rfl rfl h2 ?_
 cases ha : inR a 0 (p.ws.length - 1)
 ·simp only [RN, qA, qB, qC, qD, qE, qF]
  rw [Piece.meets, hok, ha]; rfl
 simp only [RN, qA, qB, qC, qD, qE, qF]
 refine call_d rfl rfl h3 ?_
 cases hb : inR b 0 (p.ws.length - 1)
 ·simp only [RN, qA, qB, qC, qD, qE, qF]
  rw [Piece.meets, hok, ha, hb]; rfl
 have wa : p.isW a := by simp only [inR, Bool.and_eq_true, decide_eq_true_eq] at ha; exact ⟨by omega, by omega⟩
 have wb : p.isW b := by simp only [inR, Bool.and_eq_true, decide_eq_true_eq] at hb; exact ⟨by omega, by omega⟩
 have hwr : Pure C F.plate_laid_wrong [(p.laid []).dv, .int .i64 a, .int .i64 b] (.d (.int .i64 (p.wrong [] a b))) [] := laid_wrong_c (p.laid []) (Piece.ok_good hok) (Piece.laid_fine p []) (by simp [Piece.laid]) a b wa wb
 simp only [RN, qA, qB, qC, qD, qE, qF]
 refine call_d rfl rfl hl ?_
 rw [dv_Laid] at hwr
 simp only [dv_Laid, RN, qA, qB, qC, qD, qE, qF]
 refine call_d rfl rfl hwr ?_
 simp only [RN, qA, qB, qC, qD, qE, qF]
 rw [Piece.meets, hok, ha, hb]; rfl
set_option maxRecDepth 10000 in
set_option maxHeartbeats 4000000 in
theorem PlateFaults_c (hkn : KnownC) (p : Piece) (a b : Int) : Pure Go.Tel.C F.law_PlateFaults [p.dv, .int .i64 a, .int .i64 b] (.d (.bool true)) [] := by
 have hkn : Pure C F.law_known [] (.d (.bool true)) [] := hkn
 have n00 : ((0 : Int) != 0) = false := rfl
 have n22 : ((2 : Int) != 2) = false := rfl
 have n55 : ((5 : Int) != 5) = false := rfl
 have y0 : ((0 : Int) == 0) = true := rfl
 have y2 : ((2 : Int) == 2) = true := rfl
 have tf : (true != false) = true := rfl
 have tt : (true != true) = false := rfl
 have hsh := short_c p
 rw [dv_Piece] at hsh
 refine pure_of_pwp_d mixed rfl ok_law_PlateFaults ?_
 simp only [pc_law_PlateFaults, rs_law_PlateFaults, dv_Piece, List.not_mem_nil, RN, qA, qB, qC, qD, qE, qF]
 refine call_d rfl rfl hsh ?_
 cases hs : p.short
 ·simp only [RN, qA, qB, qC, qD, qE, qF]
  refine call_d rfl rfl hkn ?_
  simp only [RN, qA, qB, qC, qD, qE, qF]
 simp only [Piece.short, Bool.and_eq_true, decide_eq_true_eq] at hs
 obtain ⟨⟨s1, s2⟩, s3⟩ := hs
 have h1 := Check_c p (by omega) (by omega) (by omega)
 have h2 := Meets_c p (by omega) (by omega) (by omega) a b
 have h3 := Fault_c lay_c fault_c p (by omega) (by omega) (by omega)
 have h4 := rPiece_c p (by omega) (by omega) (by omega)
 rw [dv_Piece] at h1 h2 h3 h4
 simp only [RN, qA, qB, qC, qD, qE, qF]
 cases hok : p.ok
 ·rw [hok] at h1 h4
  have e2 : p.meets a b = (0, 2) := by rw [Piece.meets, hok]; rfl
  have e3 : p.Fault = (default, 2) := by rw [Piece.Fault, hok]; rfl
  rw [e2] at h2
  rw [e3] at h3
  refine call_d rfl rfl h1 ?_
  simp only [RN, qA, qB, qC, qD, qE, qF]
  refine call_d rfl rfl h2 ?_
  simp only [RN, qA, qB, qC, qD, qE, qF]
  refine call_d rfl rfl h3 ?_
  have d0 : (default : Flt).dv = .agg [.int .i64 0, .int .i64 0, .int .i64 0] := rfl
  simp only [d0, List.not_mem_nil, RN, qA, qB, qC, qD, qE, qF]
  refine call_d rfl rfl h4 ?_
  have i2 : (if false = true then (0 : Int) else 2) = 2 := rfl
  simp only [i2, n22, RN, qA, qB, qC, qD, qE, qF]
  refine call_d rfl rfl h4 ?_
  simp only [y2, y0, RN, qA, qB, qC, qD, qE, qF]
  rw [ev_binA (t := true) rfl]
  simp only [tf, RN, qA, qB, qC, qD, qE, qF]
  refine call_d rfl rfl hkn ?_
  simp only [RN, qA, qB, qC, qD, qE, qF]
 rw [hok] at h1 h4
 have hlt : ∀ m ∈ p.ms, m.a < m.b := fun m hm => (ok_mss hok m hm).2.1
 have h5 := rFault_c p (Piece.ok_good hok) (by omega)
 have h6 := rWheel_c p a (by omega)
 have h7 := rWheel_c p b (by omega)
 rw [dv_Piece] at h5 h6 h7
 have e3 := Fault_of hok
 have h1 := h1
 rw [if_pos rfl] at h1
 have d0 : (default : Flt).dv = .agg [.int .i64 0, .int .i64 0, .int .i64 0] := rfl
 cases hx : p.rfault with
 | none =>
  rw [hx] at h5 e3
  have e3' : p.Fault = (default, 5) := e3
  rw [e3'] at h3
  refine call_d rfl rfl h1 ?_
  simp only [RN, qA, qB, qC, qD, qE, qF]
  refine call_d rfl rfl h2 ?_
  simp only [RN, qA, qB, qC, qD, qE, qF]
  refine call_d rfl rfl h3 ?_
  simp only [d0, List.not_mem_nil, RN, qA, qB, qC, qD, qE, qF]
  refine call_d rfl rfl h4 ?_
  simp only [n00, RN, qA, qB, qC, qD, qE, qF]
  refine call_d rfl rfl h4 ?_
  simp only [RN, qA, qB, qC, qD, qE, qF]
  refine call_d rfl rfl h5 ?_
  simp only [Option.getD_none, d0, List.not_mem_nil, y0, n55, RN, qA, qB, qC, qD, qE, qF]
  rw [ev_binA (t := true) rfl]
  simp only [tt, n00, RN, qA, qB, qC, qD, qE, qF]
  refine call_d rfl rfl h6 ?_
  cases ha : inR a 0 (p.ws.length - 1)
  ·have e2 : p.meets a b = (0, 2) := by rw [Piece.meets, hok, ha]; rfl
   simp only [e2, y2, y0, RN, qA, qB, qC, qD, qE, qF]
   refine call_d rfl rfl hkn ?_
   simp only [RN, qA, qB, qC, qD, qE, qF]
  simp only [RN, qA, qB, qC, qD, qE, qF]
  refine call_d rfl rfl h7 ?_
  cases hb : inR b 0 (p.ws.length - 1)
  ·have e2 : p.meets a b = (0, 2) := by rw [Piece.meets, hok, ha, hb]; rfl
   simp only [e2, y2, y0, RN, qA, qB, qC, qD, qE, qF]
   refine call_d rfl rfl hkn ?_
   simp only [RN, qA, qB, qC, qD, qE, qF]
  have wa : p.isW a := by simp only [inR, Bool.and_eq_true, decide_eq_true_eq] at ha; exact ⟨by omega, by omega⟩
  have wb : p.isW b := by simp only [inR, Bool.and_eq_true, decide_eq_true_eq] at hb; exact ⟨by omega, by omega⟩
  have h8 := rMeets_c p (Piece.ok_good hok) (by omega) a b wa wb
  rw [dv_Piece] at h8
  have e2 : p.meets a b = (p.rmeets a b, 0) := by rw [Piece.meets, hok, ha, hb, ← wrong_same hlt]; rfl
  have e8 : (p.rmeets a b == p.rmeets a b) = true := beq_self_eq_true _
  simp only [e2, y0, RN, qA, qB, qC, qD, qE, qF]
  refine call_d rfl rfl h8 ?_
  simp only [e8, RN, qA, qB, qC, qD, qE, qF]
  refine call_d rfl rfl hkn ?_
  simp only [RN, qA, qB, qC, qD, qE, qF]
 | some f =>
  rw [hx] at h5 e3
  have e3' : p.Fault = (f, 0) := e3
  rw [e3'] at h3
  have hk := rfault_kind hx
  have k1 : (f.kind == 0) = false := beq_eq_false_iff_ne.2 hk
  have k2 : (f.kind != 0) = true := bne_iff_ne.2 hk
  refine call_d rfl rfl h1 ?_
  simp only [RN, qA, qB, qC, qD, qE, qF]
  refine call_d rfl rfl h2 ?_
  simp only [RN, qA, qB, qC, qD, qE, qF]
  refine call_d rfl rfl h3 ?_
  simp only [dv_Flt, List.not_mem_nil, RN, qA, qB, qC, qD, qE, qF]
  refine call_d rfl rfl h4 ?_
  simp only [n00, RN, qA, qB, qC, qD, qE, qF]
  refine call_d rfl rfl h4 ?_
  simp only [RN, qA, qB, qC, qD, qE, qF]
  refine call_d rfl rfl h5 ?_
  simp only [Option.getD_some, dv_Flt, List.not_mem_nil, k1, k2, n00, RN, qA, qB, qC, qD, qE, qF]
  rw [ev_binA (t := true) (by simp [cellsEq])]
  simp only [tt, RN, qA, qB, qC, qD, qE, qF]
  refine call_d rfl rfl h6 ?_
  cases ha : inR a 0 (p.ws.length - 1)
  ·have e2 : p.meets a b = (0, 2) := by rw [Piece.meets, hok, ha]; rfl
   simp only [e2, y2, y0, RN, qA, qB, qC, qD, qE, qF]
   refine call_d rfl rfl hkn ?_
   simp only [RN, qA, qB, qC, qD, qE, qF]
  simp only [RN, qA, qB, qC, qD, qE, qF]
  refine call_d rfl rfl h7 ?_
  cases hb : inR b 0 (p.ws.length - 1)
  ·have e2 : p.meets a b = (0, 2) := by rw [Piece.meets, hok, ha, hb]; rfl
   simp only [e2, y2, y0, RN, qA, qB, qC, qD, qE, qF]
   refine call_d rfl rfl hkn ?_
   simp only [RN, qA, qB, qC, qD, qE, qF]
  have wa : p.isW a := by simp only [inR, Bool.and_eq_true, decide_eq_true_eq] at ha; exact ⟨by omega, by omega⟩
  have wb : p.isW b := by simp only [inR, Bool.and_eq_true, decide_eq_true_eq] at hb; exact ⟨by omega, by omega⟩
  have h8 := rMeets_c p (Piece.ok_good hok) (by omega) a b wa wb
  rw [dv_Piece] at h8
  have e2 : p.meets a b = (p.rmeets a b, 0) := by rw [Piece.meets, hok, ha, hb, ← wrong_same hlt]; rfl
  have e8 : (p.rmeets a b == p.rmeets a b) = true := beq_self_eq_true _
  simp only [e2, y0, RN, qA, qB, qC, qD, qE, qF]
  refine call_d rfl rfl h8 ?_
  simp only [e8, RN, qA, qB, qC, qD, qE, qF]
  refine call_d rfl rfl hkn ?_
  simp only [RN, qA, qB, qC, qD, qE, qF]
end Go.Tel
