/-
  Part 3 of the proof of a law of plates, the law itself: an abstract machine over the model, contracts of functions, plain laws.
  Conditions: none.
-/
import Derived.Test.YtpjjdinlflfgkabGreatDoorPlateStandsL02
set_option linter.all false
open Nat renaming reduceBEq → qA, reduceAdd → qB, reduceSub → qC, reduceEqDiff → qD, reduceLT → qE, reduceLeDiff → qF
namespace Go.Tel
open Go.Am
set_option maxRecDepth 10000 in
set_option maxHeartbeats 4000000 in
theorem PlateStands_c (hkn : KnownC) (p : Piece) (teeth a b : Int) (o : Pt) : Pure Go.Tel.C F.law_PlateStands [p.dv, .int .i64 teeth, .int .i64 a, .int .i64 b, o.dv] (.d (.bool true)) [] := by
 have hkn : Pure C F.law_known [] (.d (.bool true)) [] := hkn
 have n0 : ((0 : Int) != 0) = false := rfl
 have n5 : ((5 : Int) != 0) = true := rfl
 have n2 : ((2 : Int) != 0) = true := rfl
 have n3 : ((3 : Int) != 0) = true := rfl
 have y0 : ((0 : Int) == 0) = true := rfl
 have y5 : ((5 : Int) == 5) = true := rfl
 have n50 : ((5 : Int) == 0) = false := rfl
 have d0 : (default : Flt).dv = .agg [.int .i64 0, .int .i64 0, .int .i64 0] := rfl
 have hsh := short_c p
 rw [dv_Piece] at hsh
 refine pure_of_pwp_d mixed rfl ok_law_PlateStands ?_
 simp only [pc_law_PlateStands, rs_law_PlateStands, dv_Piece, dv_Pt, List.not_mem_nil, RN, qA, qB, qC, qD, qE, qF]
 refine call_d rfl rfl hsh ?_
 cases hs : p.short
 ·simp only [RN, qA, qB, qC, qD, qE, qF]
  refine call_d rfl rfl hkn ?_
  simp only [RN, qA, qB, qC, qD, qE, qF]
 simp only [Piece.short, Bool.and_eq_true, decide_eq_true_eq] at hs
 obtain ⟨⟨s1, s2⟩, s3⟩ := hs
 have h1 := Place_c lay_c p (by omega) (by omega) (by omega) teeth a b
 have h2 := placed_c p (by omega) (by omega) (by omega) teeth a b
 have hfa := Fault_c lay_c fault_c p (by omega) (by omega) (by omega)
 rw [dv_Piece] at h1 h2 hfa
 simp only [RN, qA, qB, qC, qD, qE, qF]
 refine call_d rfl rfl h2 ?_
 cases hb : p.placeBad teeth a b
 case true =>
  rw [Piece.rplaced, if_pos hb]
  simp only [n2, RN, qA, qB, qC, qD, qE, qF]
  refine call_d rfl rfl hkn ?_
  simp only [RN, qA, qB, qC, qD, qE, qF]
 cases hr : p.room b
 ·have e : p.rplaced teeth a b = 3 := by rw [Piece.rplaced, hb, if_neg (by decide), hr]; rfl
  rw [e]
  simp only [n3, RN, qA, qB, qC, qD, qE, qF]
  refine call_d rfl rfl hkn ?_
  simp only [RN, qA, qB, qC, qD, qE, qF]
 have e : p.rplaced teeth a b = 0 := by rw [Piece.rplaced, hb, if_neg (by decide), hr]; rfl
 rw [e]
 by_cases o1 : o.x < 0
 ·simp only [n0, o1, RN, qA, qB, qC, qD, qE, qF]
  refine call_d rfl rfl hkn ?_
  simp only [RN, qA, qB, qC, qD, qE, qF]
 by_cases o2 : o.x > p.w
 ·simp only [n0, o1, o2, RN, qA, qB, qC, qD, qE, qF]
  refine call_d rfl rfl hkn ?_
  simp only [RN, qA, qB, qC, qD, qE, qF]
 by_cases o3 : o.y < 0
 ·simp only [n0, o1, o2, o3, RN, qA, qB, qC, qD, qE, qF]
  refine call_d rfl rfl hkn ?_
  simp only [RN, qA, qB, qC, qD, qE, qF]
 by_cases o4 : o.y > p.h
 ·simp only [n0, o1, o2, o3, o4, RN, qA, qB, qC, qD, qE, qF]
  refine call_d rfl rfl hkn ?_
  simp only [RN, qA, qB, qC, qD, qE, qF]
 obtain ⟨k1, k2, k3, k4⟩ := placeBad_n hb
 have hg := Piece.ok_good k1
 have hms : ∀ m ∈ p.ms, m.a < m.b := fun m hm => (ok_mss k1 m hm).2.1
 have hso := stands_c hb hr (at_ := o) (by omega) (by omega)
 rw [dv_Piece, dv_Pt] at hso
 rw [place_ok hb hr] at h1
 rw [Fault_of k1] at hfa
 simp only [n0, o1, o2, o3, o4, RN, qA, qB, qC, qD, qE, qF]
 refine call_d rfl rfl h1 ?_
 cases hpx : p.rplaceX teeth a b with
 | none =>
  have e2 : p.rstands o teeth a b = false := place_none hg hms k3 k4 hpx (by omega) (by omega)
  rw [e2] at hso
  have d1 : (⟨0, 0⟩ : Pt).dv = .agg [.int .i64 0, .int .i64 0] := rfl
  simp only [d1, List.not_mem_nil, RN, qA, qB, qC, qD, qE, qF]
  refine call_d rfl rfl hso ?_
  simp only [n5, y5, RN, qA, qB, qC, qD, qE, qF]
  refine call_d rfl rfl hkn ?_
  simp only [RN, qA, qB, qC, qD, qE, qF]
 | some pt =>
  obtain ⟨q1, q2, q3, q4⟩ := place_first hg hms k3 k4 hpx
  have hsp := stands_c hb hr (at_ := pt) q1 q2
  rw [q3] at hsp
  have hw1 := rWith_c p (by omega) (by omega) (by omega) pt teeth a b k3
  have eq : p.with pt (p.wh a).layer teeth (othersOf a b) = p.rq pt teeth a b := rfl
  rw [eq] at hw1
  have hl := Piece.ok_lens k1
  have l1 : (p.rq pt teeth a b).cs.length = p.cs.length + 1 := by simp [Piece.rq, Piece.with]
  have l2 : (p.rq pt teeth a b).ws.length = p.ws.length + 1 := by simp [Piece.rq, Piece.with]
  have l3 : (p.rq pt teeth a b).ms.length ≤ p.ms.length + 2 := by
   simp only [Piece.rq, Piece.with, List.length_append, List.length_map, othersOf]
   split <;> simp
  have hqok : (p.rq pt teeth a b).ok = true := by
   rw [rq_ok hb hr q1 q2]
   rw [Piece.rstands, Bool.and_eq_true] at q3
   exact q3.1
  have hfb := Fault_c lay_c fault_c (p.rq pt teeth a b) (by omega) (by omega) (by omega)
  rw [Fault_of hqok] at hfb
  rw [dv_Piece, dv_Pt] at hsp hw1
  simp only [dv_Pt, List.not_mem_nil, RN, qA, qB, qC, qD, qE, qF]
  refine call_d rfl rfl hso ?_
  simp only [n0, RN, qA, qB, qC, qD, qE, qF]
  refine call_d rfl rfl hsp ?_
  cases hst : p.rstands o teeth a b
  case false =>
   simp only [RN, qA, qB, qC, qD, qE, qF]
   refine call_d rfl rfl hfa ?_
   cases hx : p.rfault with
   | some f =>
    simp only [dv_Flt, List.not_mem_nil, RN, qA, qB, qC, qD, qE, qF]
    refine call_d rfl rfl hw1 ?_
    refine call_d rfl rfl hfb ?_
    cases hx2 : (p.rq pt teeth a b).rfault with
    | some f2 =>
     simp only [dv_Flt, y0, y5, n50, List.not_mem_nil, RN, qA, qB, qC, qD, qE, qF]
     refine call_d rfl rfl hkn ?_
     simp only [RN, qA, qB, qC, qD, qE, qF]
    | none =>
     simp only [d0, y0, y5, n50, List.not_mem_nil, RN, qA, qB, qC, qD, qE, qF]
     refine call_d rfl rfl hkn ?_
     simp only [RN, qA, qB, qC, qD, qE, qF]
   | none =>
    have hx2 := rfault_with hg q3 hx
    rw [hx2] at hfb
    simp only [d0, List.not_mem_nil, RN, qA, qB, qC, qD, qE, qF]
    refine call_d rfl rfl hw1 ?_
    refine call_d rfl rfl hfb ?_
    simp only [d0, y0, y5, n50, List.not_mem_nil, RN, qA, qB, qC, qD, qE, qF]
    refine call_d rfl rfl hkn ?_
    simp only [RN, qA, qB, qC, qD, qE, qF]
  have c0 : ¬ (o.x < pt.x ∨ (o.x = pt.x ∧ o.y < pt.y)) := fun h => by
   rw [q4 o (by omega) (by omega) (by omega) h] at hst; cases hst
  have c1 : ¬ o.x < pt.x := by omega
  by_cases hxe : o.x = pt.x
  ·have c2 : (o.x == pt.x) = true := beq_iff_eq.2 hxe
   have c3 : ¬ o.y < pt.y := by omega
   simp only [c1, c2, c3, RN, qA, qB, qC, qD, qE, qF]
   refine call_d rfl rfl hfa ?_
   cases hx : p.rfault with
   | some f =>
    simp only [dv_Flt, List.not_mem_nil, RN, qA, qB, qC, qD, qE, qF]
    refine call_d rfl rfl hw1 ?_
    refine call_d rfl rfl hfb ?_
    cases hx2 : (p.rq pt teeth a b).rfault with
    | some f2 =>
     simp only [dv_Flt, y0, y5, n50, List.not_mem_nil, RN, qA, qB, qC, qD, qE, qF]
     refine call_d rfl rfl hkn ?_
     simp only [RN, qA, qB, qC, qD, qE, qF]
    | none =>
     simp only [d0, y0, y5, n50, List.not_mem_nil, RN, qA, qB, qC, qD, qE, qF]
     refine call_d rfl rfl hkn ?_
     simp only [RN, qA, qB, qC, qD, qE, qF]
   | none =>
    have hx2 := rfault_with hg q3 hx
    rw [hx2] at hfb
    simp only [d0, List.not_mem_nil, RN, qA, qB, qC, qD, qE, qF]
    refine call_d rfl rfl hw1 ?_
    refine call_d rfl rfl hfb ?_
    simp only [d0, y0, y5, n50, List.not_mem_nil, RN, qA, qB, qC, qD, qE, qF]
    refine call_d rfl rfl hkn ?_
    simp only [RN, qA, qB, qC, qD, qE, qF]
  ·have c2 : (o.x == pt.x) = false := beq_eq_false_iff_ne.2 hxe
   simp only [c1, c2, RN, qA, qB, qC, qD, qE, qF]
   refine call_d rfl rfl hfa ?_
   cases hx : p.rfault with
   | some f =>
    simp only [dv_Flt, List.not_mem_nil, RN, qA, qB, qC, qD, qE, qF]
    refine call_d rfl rfl hw1 ?_
    refine call_d rfl rfl hfb ?_
    cases hx2 : (p.rq pt teeth a b).rfault with
    | some f2 =>
     simp only [dv_Flt, y0, y5, n50, List.not_mem_nil, RN, qA, qB, qC, qD, qE, qF]
     refine call_d rfl rfl hkn ?_
     simp only [RN, qA, qB, qC, qD, qE, qF]
    | none =>
     simp only [d0, y0, y5, n50, List.not_mem_nil, RN, qA, qB, qC, qD, qE, qF]
     refine call_d rfl rfl hkn ?_
     simp only [RN, qA, qB, qC, qD, qE, qF]
   | none =>
    have hx2 := rfault_with hg q3 hx
    rw [hx2] at hfb
    simp only [d0, List.not_mem_nil, RN, qA, qB, qC, qD, qE, qF]
    refine call_d rfl rfl hw1 ?_
    refine call_d rfl rfl hfb ?_
    simp only [d0, y0, y5, n50, List.not_mem_nil, RN, qA, qB, qC, qD, qE, qF]
    refine call_d rfl rfl hkn ?_
    simp only [RN, qA, qB, qC, qD, qE, qF]
end Go.Tel
