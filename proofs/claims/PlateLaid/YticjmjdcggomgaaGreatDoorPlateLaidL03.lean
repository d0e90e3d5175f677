/-
  Part 3 of the proof of a law of plates, the law itself: an abstract machine over the model, contracts of functions, plain laws.
  Conditions: none.
-/
import Derived.Test.YticjmjdcggomgaaGreatDoorPlateLaidL02
set_option linter.all false
open Nat renaming reduceBEq → qA, reduceAdd → qB, reduceSub → qC, reduceEqDiff → qD, reduceLT → qE, reduceLeDiff → qF
namespace Go.Am
theorem store_lay {bs : List (Option (List PV))} {fz : List Nat} {ar : List (Option Arr)} {K : Mem → Prop} {k ver i : Nat} {xs : List Go.Tel.Wh} {g : Int} (h : ar[k]? = some (some ⟨4, xs.map Go.Tel.Wh.dv, ver, 1⟩)) (hi : i < xs.length)
  (hK : K ⟨bs, fz, ar.set k (some ⟨4, (xs.set i { xs.getD i default with layer := g }).map Go.Tel.Wh.dv, ver, 1⟩)⟩) : runStore 1 (.eptr k ver i 2) (.d (.int .i64 g)) ⟨bs, fz, ar⟩ K := by
 simp only [runStore, row_m, h]
 have hd : (xs.map Go.Tel.Wh.dv).getD i default = Go.Tel.Wh.dv (xs.getD i default) := Go.Tel.getD_map hi
 have ha : allD [PV.d (DV.int IntKind.i64 g)] = some [.int .i64 g] := rfl
 have hs : (xs.map Go.Tel.Wh.dv).set i (.agg [.int .i64 (xs.getD i default).centre, .int .i64 (xs.getD i default).sleeve, .int .i64 g, .int .i64 (xs.getD i default).teeth]) = (xs.set i { xs.getD i default with layer := g }).map Go.Tel.Wh.dv := by rw [List.map_set, Go.Tel.dv_Wh]
 simp only [if_true, PV.cells, ha, hd, Go.Tel.dv_Wh, setCells, hs, DV.cells, splice, List.take_succ_cons, List.take_zero, List.length_cons, List.length_nil, List.drop_succ_cons, List.drop_zero, List.cons_append, List.nil_append]
 exact ⟨trivial, by decide, trivial, rfl, by decide, hK⟩
end Go.Am
namespace Go.Tel
open Go.Am
set_option maxRecDepth 10000 in
theorem rGreatest_c (l : List Int) (hl : l.length ≤ 1000) : Pure C F.ref_Greatest [.slice false (l.map intDV)] (.d (.int .i64 (grt l (-1)))) [] := by
 refine pure_of_pwp_d mixed rfl ok_ref_Greatest ?_
 simp only [pc_ref_Greatest, rs_ref_Greatest, RN, qA, qB, qC, qD, qE, qF]
 refine pwp_range l.length (fun i (m : Int) => ⟨[(0, .d (.slice false (l.map intDV))), (3, .d (.int .i64 m)), (4, .d (.int .i64 i))], ⟨[], [], []⟩⟩)
  (fun i m => grt l (-1) = grt (l.drop i) m) 0 (-1) (Nat.zero_le _) rfl rfl (fun i m g1 hix => ?_) (fun m hix => ?_)
 ·obtain ⟨g2, g3, g6⟩ := rng g1 (by omega)
  rw [drop_cons g1, grt] at hix
  simp only [g2, g3, g1, getD_map, dv_int, Int.toNat_natCast, List.length_map, minmax_M, g6, RN, qA, qB, qC, qD, qE, qF]
  exact up_same _ g1 rfl hix (by simp) (by simp) rfl rfl
 ·rw [List.drop_length, grt] at hix
  simp only [Int.lt_irrefl, List.length_map, hix, RN, qA, qB, qC, qD, qE, qF]
def Piece.layC (p : Piece) : List PV := [.d (.int .i64 p.w), .d (.int .i64 p.h), .d (.int .i64 p.pl), .d (.int .i64 p.ga), .d (.int .i64 p.po), .d (.slice false (p.cs.map Pt.dv)), .tsl 0 0 0, .d (.slice false (p.ms.map Ms.dv))]
theorem getD_setW {l : List Wh} {b : Nat} {v : Wh} (hb : b < l.length) (c : Nat) : (l.set b v).getD c default = if c = b then v else l.getD c default := by
 rw [List.getD_eq_getElem?_getD, List.getElem?_set]
 by_cases h : c = b
 ·subst h; simp [hb]
 ·rw [if_neg (fun e => h e.symm), if_neg h, List.getD_eq_getElem?_getD]
theorem Meets_at {p : Piece} (hok : p.ok = true) {a b : Nat} (ha : a < p.ws.length) (hb : b < p.ws.length) : p.meets a b = (p.wrong [] a b, 0) := by
 have h1 : inR (a : Int) 0 (p.ws.length - 1) = true := by simp only [inR, Bool.and_eq_true, decide_eq_true_eq]; omega
 have h2 : inR (b : Int) 0 (p.ws.length - 1) = true := by simp only [inR, Bool.and_eq_true, decide_eq_true_eq]; omega
 rw [Piece.meets, hok, h1, h2]; rfl
set_option maxRecDepth 10000 in
set_option maxHeartbeats 4000000 in
theorem laid_none (hkn : KnownC) (p : Piece) (hn : p.ws = []) (o : List Int) : Pure Go.Tel.C F.law_PlateLaid [p.dv, .slice false (o.map intDV)] (.d (.bool true)) [] := by
 have hkn : Pure C F.law_known [] (.d (.bool true)) [] := hkn
 have n0 : ((0 : Int) != 0) = false := rfl
 have n5 : ((5 : Int) != 0) = true := rfl
 have n7 : ((7 : Int) != 0) = true := rfl
 have y5 : ((5 : Int) == 5) = true := rfl
 have y7 : ((7 : Int) == 7) = true := rfl
 have y57 : ((5 : Int) == 7) = false := rfl
 have hsh := short_c p
 rw [dv_Piece] at hsh
 refine pure_of_pwp_d mixed rfl ok_law_PlateLaid0 ?_
 simp only [pc_law_PlateLaid0, rs_law_PlateLaid0, dv_Piece, List.not_mem_nil, RN, qA, qB, qC, qD, qE, qF]
 refine call_d rfl rfl hsh ?_
 cases hs : p.short
 ·simp only [RN, qA, qB, qC, qD, qE, qF]
  refine call_d rfl rfl hkn ?_
  simp only [RN, qA, qB, qC, qD, qE, qF]
 simp only [Piece.short, Bool.and_eq_true, decide_eq_true_eq] at hs
 obtain ⟨⟨s1, s2⟩, s3⟩ := hs
 by_cases c1 : (o.length : Int) > 10
 ·simp only [List.length_map, c1, RN, qA, qB, qC, qD, qE, qF]
  refine call_d rfl rfl hkn ?_
  simp only [RN, qA, qB, qC, qD, qE, qF]
 have h1 := Layers_c p (by omega) (by omega) (by omega)
 have h2 := rPiece_c p (by omega) (by omega) (by omega)
 rw [dv_Piece] at h1 h2
 simp only [List.length_map, c1, RN, qA, qB, qC, qD, qE, qF]
 refine call_d rfl rfl h2 ?_
 cases hok : p.ok
 ·simp only [RN, qA, qB, qC, qD, qE, qF]
  refine call_d rfl rfl hkn ?_
  simp only [RN, qA, qB, qC, qD, qE, qF]
 cases c2 : ((o.length : Int) != (p.ws.length : Int))
 case true =>
  simp only [List.length_map, c2, RN, qA, qB, qC, qD, qE, qF]
  refine call_d rfl rfl hkn ?_
  simp only [RN, qA, qB, qC, qD, qE, qF]
 have ho : o.length = p.ws.length := by have := bne_eq_false_iff_eq.1 c2; omega
 have hlen := Piece.ok_lens hok
 have h3 := fun l (h : l.length = p.ws.length) => rLaying_c p hok l (by omega)
 have el := layers_of hok
 obtain ⟨best, none_⟩ := laid_best (p := p)
 simp only [dv_Piece] at h3
 simp only [List.length_map, c2, RN, qA, qB, qC, qD, qE, qF]
 refine call_d rfl rfl h1 ?_
 simp only [RN, qA, qB, qC, qD, qE, qF]
 refine call_d rfl rfl (h3 o ho) ?_
 cases hst : p.rstiff
 case true =>
  rw [hst, if_pos rfl] at el
  rw [el, stiff_none hst ho]
  simp only [n7, y7, RN, qA, qB, qC, qD, qE, qF]
  refine call_d rfl rfl hkn ?_
  simp only [RN, qA, qB, qC, qD, qE, qF]
 rw [hst, if_neg (by decide)] at el
 cases hl : p.rlayers with
 | none =>
  rw [hl] at el
  have el : p.layers = (none, 5) := el
  rw [el, none_ hl o ho]
  simp only [n5, y57, y5, RN, qA, qB, qC, qD, qE, qF]
  refine call_d rfl rfl hkn ?_
  simp only [RN, qA, qB, qC, qD, qE, qF]
 | some l =>
  rw [hl] at el
  have el : p.layers = (some l, 0) := el
  obtain ⟨b1, b2, b3⟩ := best l hl
  have b4 := b3 o ho
  clear best none_ b3
  have h4 := h3 l b1
  rw [b2] at h4
  have ll : ((l.length : Int) != (p.ws.length : Int)) = false := by rw [b1]; exact bne_self_eq_false _
  have l2 : ((l.length : Nat) : Int) = (p.ws.length : Int) := by rw [b1]
  rw [el]
  simp only [bestD_s, n0, List.length_map, ll, RN, qA, qB, qC, qD, qE, qF]
  refine call_d rfl rfl h4 ?_
  simp only [RN, qA, qB, qC, qD, qE, qF]
  refine call_d rfl rfl (rGreatest_c l (by omega)) ?_
  try (simp only [RN, qA, qB, qC, qD, qE, qF])
  refine call_d rfl rfl (rGreatest_c o (by omega)) ?_
  have hcase : p.rlay o = false ∨ (p.rlay o = true ∧ ¬ grt o (-1) < grt l (-1) ∧ (grt o (-1) == grt l (-1)) = false) ∨ (p.rlay o = true ∧ ¬ grt o (-1) < grt l (-1) ∧ (grt o (-1) == grt l (-1)) = true ∧ decide (cmpL o l < 0) = false) := by
   cases hO : p.rlay o
   ·exact .inl rfl
   ·obtain ⟨d1, d2⟩ := b4 hO
    cases hE : (grt o (-1) == grt l (-1))
    ·exact .inr (.inl ⟨rfl, d1, rfl⟩)
    ·exact .inr (.inr ⟨rfl, d1, rfl, decide_eq_false (d2 (beq_iff_eq.1 hE))⟩)
  have hbf := rBefore_c o l (by omega) (by omega)
  clear b4
  rcases hcase with hO | ⟨hO, d1, d2⟩ | ⟨hO, d1, d2, d3⟩
  case' inl =>
   rw [hO]
   simp only [List.not_mem_nil, RN, qA, qB, qC, qD, qE, qF]
  case' inr.inr =>
   rw [hO]
   simp only [d1, d2, RN, qA, qB, qC, qD, qE, qF]
   refine call_d rfl rfl hbf ?_
   rw [d3]
   simp only [List.not_mem_nil, RN, qA, qB, qC, qD, qE, qF]
  case' inr.inl =>
   rw [hO]
   simp only [d1, d2, List.not_mem_nil, RN, qA, qB, qC, qD, qE, qF]
  all_goals
   have hw0 : p.ws.length = 0 := by rw [hn]; rfl
   have l0 : l = [] := List.length_eq_zero_iff.1 (by omega)
   subst l0
   refine ⟨fun y hy => (by rw [hn] at hy; cases hy), ?_⟩
   refine ⟨fun hh => (by cases hh), ?_⟩
   refine ⟨fun _ hf => hf.elim, ?_⟩
   refine ⟨by rw [hn]; decide, ?_⟩
   refine ⟨rfl, ?_⟩
   refine ⟨rfl, ?_⟩
   refine pwp_range 0 (fun i (_ : Unit) => ⟨[(5, .d (.slice false [])), (10, .ptr 1 0), (11, .d (.int .i64 i))], ⟨[some (p.cells.map .d), some p.layC], [0], [some ⟨4, [], 0, 0⟩]⟩⟩)
    (fun _ _ => True) 0 () (Nat.zero_le _) (by rw [Piece.cells, hn]; rfl) trivial (fun i _ g1 _ => absurd g1 (Nat.not_lt_zero _)) (fun _ _ => ?_)
   simp only [Piece.cells, Piece.layC, List.length_nil, Int.lt_irrefl, RN, qA, qB, qC, qD, qE, qF]
   refine pwp_range 0 (fun i (_ : Unit) => ⟨[(5, .d (.slice false [])), (10, .ptr 1 0), (12, .d (.int .i64 i))], ⟨[some (p.cells.map .d), some p.layC], [0], [some ⟨4, [], 0, 0⟩]⟩⟩)
    (fun _ _ => True) 0 () (Nat.zero_le _) rfl trivial (fun i _ g1 _ => absurd g1 (Nat.not_lt_zero _)) (fun _ _ => ?_)
   simp only [Piece.cells, Piece.layC, List.length_nil, Int.lt_irrefl, RN, qA, qB, qC, qD, qE, qF]
   refine call_d rfl rfl hkn ?_
   simp only [RN, qA, qB, qC, qD, qE, qF]
set_option maxRecDepth 10000 in
set_option maxHeartbeats 4000000 in
theorem laid_some (hkn : KnownC) (p : Piece) (hn : p.ws ≠ []) (o : List Int) : Pure Go.Tel.C F.law_PlateLaid [p.dv, .slice false (o.map intDV)] (.d (.bool true)) [] := by
 have hkn : Pure C F.law_known [] (.d (.bool true)) [] := hkn
 have n0 : ((0 : Int) != 0) = false := rfl
 have n5 : ((5 : Int) != 0) = true := rfl
 have n7 : ((7 : Int) != 0) = true := rfl
 have y5 : ((5 : Int) == 5) = true := rfl
 have y7 : ((7 : Int) == 7) = true := rfl
 have y57 : ((5 : Int) == 7) = false := rfl
 have hsh := short_c p
 rw [dv_Piece] at hsh
 refine pure_of_pwp_d mixed rfl ok_law_PlateLaid ?_
 simp only [pc_law_PlateLaid, rs_law_PlateLaid, dv_Piece, List.not_mem_nil, RN, qA, qB, qC, qD, qE, qF]
 refine call_d rfl rfl hsh ?_
 cases hs : p.short
 ·simp only [RN, qA, qB, qC, qD, qE, qF]
  refine call_d rfl rfl hkn ?_
  simp only [RN, qA, qB, qC, qD, qE, qF]
 simp only [Piece.short, Bool.and_eq_true, decide_eq_true_eq] at hs
 obtain ⟨⟨s1, s2⟩, s3⟩ := hs
 by_cases c1 : (o.length : Int) > 10
 ·simp only [List.length_map, c1, RN, qA, qB, qC, qD, qE, qF]
  refine call_d rfl rfl hkn ?_
  simp only [RN, qA, qB, qC, qD, qE, qF]
 have h1 := Layers_c p (by omega) (by omega) (by omega)
 have h2 := rPiece_c p (by omega) (by omega) (by omega)
 rw [dv_Piece] at h1 h2
 simp only [List.length_map, c1, RN, qA, qB, qC, qD, qE, qF]
 refine call_d rfl rfl h2 ?_
 cases hok : p.ok
 ·simp only [RN, qA, qB, qC, qD, qE, qF]
  refine call_d rfl rfl hkn ?_
  simp only [RN, qA, qB, qC, qD, qE, qF]
 cases c2 : ((o.length : Int) != (p.ws.length : Int))
 case true =>
  simp only [List.length_map, c2, RN, qA, qB, qC, qD, qE, qF]
  refine call_d rfl rfl hkn ?_
  simp only [RN, qA, qB, qC, qD, qE, qF]
 have ho : o.length = p.ws.length := by have := bne_eq_false_iff_eq.1 c2; omega
 have hlen := Piece.ok_lens hok
 have h3 := fun l (h : l.length = p.ws.length) => rLaying_c p hok l (by omega)
 have el := layers_of hok
 obtain ⟨best, none_⟩ := laid_best (p := p)
 simp only [dv_Piece] at h3
 simp only [List.length_map, c2, RN, qA, qB, qC, qD, qE, qF]
 refine call_d rfl rfl h1 ?_
 simp only [RN, qA, qB, qC, qD, qE, qF]
 refine call_d rfl rfl (h3 o ho) ?_
 cases hst : p.rstiff
 case true =>
  rw [hst, if_pos rfl] at el
  rw [el, stiff_none hst ho]
  simp only [n7, y7, RN, qA, qB, qC, qD, qE, qF]
  refine call_d rfl rfl hkn ?_
  simp only [RN, qA, qB, qC, qD, qE, qF]
 rw [hst, if_neg (by decide)] at el
 cases hl : p.rlayers with
 | none =>
  rw [hl] at el
  have el : p.layers = (none, 5) := el
  rw [el, none_ hl o ho]
  simp only [n5, y57, y5, RN, qA, qB, qC, qD, qE, qF]
  refine call_d rfl rfl hkn ?_
  simp only [RN, qA, qB, qC, qD, qE, qF]
 | some l =>
  rw [hl] at el
  have el : p.layers = (some l, 0) := el
  obtain ⟨b1, b2, b3⟩ := best l hl
  have b4 := b3 o ho
  clear best none_ b3
  have h4 := h3 l b1
  rw [b2] at h4
  have ll : ((l.length : Int) != (p.ws.length : Int)) = false := by rw [b1]; exact bne_self_eq_false _
  have l2 : ((l.length : Nat) : Int) = (p.ws.length : Int) := by rw [b1]
  rw [el]
  simp only [bestD_s, n0, List.length_map, ll, RN, qA, qB, qC, qD, qE, qF]
  refine call_d rfl rfl h4 ?_
  simp only [RN, qA, qB, qC, qD, qE, qF]
  refine call_d rfl rfl (rGreatest_c l (by omega)) ?_
  try (simp only [RN, qA, qB, qC, qD, qE, qF])
  refine call_d rfl rfl (rGreatest_c o (by omega)) ?_
  have hcase : p.rlay o = false ∨ (p.rlay o = true ∧ ¬ grt o (-1) < grt l (-1) ∧ (grt o (-1) == grt l (-1)) = false) ∨ (p.rlay o = true ∧ ¬ grt o (-1) < grt l (-1) ∧ (grt o (-1) == grt l (-1)) = true ∧ decide (cmpL o l < 0) = false) := by
   cases hO : p.rlay o
   ·exact .inl rfl
   ·obtain ⟨d1, d2⟩ := b4 hO
    cases hE : (grt o (-1) == grt l (-1))
    ·exact .inr (.inl ⟨rfl, d1, rfl⟩)
    ·exact .inr (.inr ⟨rfl, d1, rfl, decide_eq_false (d2 (beq_iff_eq.1 hE))⟩)
  have hbf := rBefore_c o l (by omega) (by omega)
  clear b4
  rcases hcase with hO | ⟨hO, d1, d2⟩ | ⟨hO, d1, d2, d3⟩
  case' inl =>
   rw [hO]
   simp only [List.not_mem_nil, RN, qA, qB, qC, qD, qE, qF]
  case' inr.inr =>
   rw [hO]
   simp only [d1, d2, RN, qA, qB, qC, qD, qE, qF]
   refine call_d rfl rfl hbf ?_
   rw [d3]
   simp only [List.not_mem_nil, RN, qA, qB, qC, qD, qE, qF]
  case' inr.inl =>
   rw [hO]
   simp only [d1, d2, List.not_mem_nil, RN, qA, qB, qC, qD, qE, qF]
  all_goals
   have hmn : p.ws.map Wh.dv ≠ [] := fun h => hn (by simpa using h)
   have hl0 : l.length ≤ 8 := by omega
   refine ⟨fun y hy => by obtain ⟨z, _, rfl⟩ := List.mem_map.1 hy; rfl, hmn, fun _ hf => hf.elim, by rw [List.length_map]; omega, rfl, rfl, ?_⟩
   refine pwp_range p.ws.length (fun i (W : List Wh) => ⟨[(5, .d (.slice false (l.map intDV))), (10, .ptr 1 0), (11, .d (.int .i64 i))], ⟨[some (p.cells.map .d), some p.layC], [0], [some ⟨4, W.map Wh.dv, 0, 1⟩]⟩⟩)
    (fun i W => Layd p l i W) 0 p.ws (Nat.zero_le _) rfl ⟨rfl, fun c _ => by rw [if_neg (Nat.not_lt_zero _)]⟩ (fun i W g1 hW => ?_) (fun W hW => ?_)
   ·obtain ⟨g2, g3, g6⟩ := rng g1 (by omega)
    have hil : i < l.length := by omega
    have hiW : i < W.length := by rw [hW.len]; exact g1
    simp only [Piece.cells, Piece.layC, g2, g3, l2, hil, hiW, getD_map, dv_int, Int.toNat_natCast, List.length_map, List.not_mem_nil, RN, qA, qB, qC, qD, qE, qF]
    refine store_lay rfl hiW ?_
    simp only [g6, RN, qA, qB, qC, qD, qE, qF]
    refine up_same (W.set i { W.getD i default with layer := l.getD i default }) g1 rfl ⟨by rw [List.length_set]; exact hW.len, fun c hc => ?_⟩ (by simp) (by simp) rfl rfl
    have hgi := hW.get i g1
    rw [if_neg (Nat.lt_irrefl _)] at hgi
    rw [getD_setW hiW, hW.get c hc]
    by_cases e : c = i
    ·subst e
     rw [if_pos rfl, if_pos (Nat.lt_succ_self _), hgi]
    ·rw [if_neg e]
     by_cases hlt : c < i
     ·rw [if_pos hlt, if_pos (by omega)]
     ·rw [if_neg hlt, if_neg (by omega)]
   ·have hqok := layd_ok hok b1 b2 hW
    have hqw := fun a b ha hb => layd_wrong hok b1 b2 hW (a := a) (b := b) ha hb
    have hWl := hW.len
    have hM := fun a b => Meets_c ({ p with ws := W } : Piece) (by show p.cs.length ≤ 1000; omega) (by show W.length ≤ 1000; omega) (by show p.ms.length ≤ 1000; omega) a b
    simp only [dv_Piece] at hM
    simp only [Piece.cells, Piece.layC, l2, Int.lt_irrefl, List.length_map, RN, qA, qB, qC, qD, qE, qF]
    refine pwp_range p.ws.length (fun i (_ : Unit) => ⟨[(5, .d (.slice false (l.map intDV))), (10, .ptr 1 0), (12, .d (.int .i64 i))], ⟨[some (p.cells.map .d), some p.layC], [0], [some ⟨4, W.map Wh.dv, 0, 1⟩]⟩⟩)
     (fun _ _ => True) 0 () (Nat.zero_le _) rfl trivial (fun i _ g1 _ => ?_) (fun _ _ => ?_)
    ·obtain ⟨g2, g3, g6⟩ := rng g1 (by omega)
     simp only [Piece.cells, Piece.layC, l2, g2, List.length_map, RN, qA, qB, qC, qD, qE, qF]
     refine pwp_range i (fun j (_ : Unit) => ⟨[(5, .d (.slice false (l.map intDV))), (10, .ptr 1 0), (12, .d (.int .i64 i)), (13, .d (.int .i64 j))], ⟨[some (p.cells.map .d), some p.layC], [0], [some ⟨4, W.map Wh.dv, 0, 1⟩]⟩⟩)
      (fun _ _ => True) 0 () (Nat.zero_le _) rfl trivial (fun j _ f1 _ => ?_) (fun _ _ => ?_)
     ·obtain ⟨f2, f3, f6⟩ := rng f1 (by omega)
      obtain ⟨w3, w4⟩ := hqw i j g1 f1
      have hMij := hM i j
      have hmo : ({ p with ws := W } : Piece).meets i j = (({ p with ws := W } : Piece).wrong [] i j, 0) := Meets_at hqok (by show i < W.length; omega) (by show j < W.length; omega)
      rw [hmo] at hMij
      have k3 : (({ p with ws := W } : Piece).wrong [] i j == 3) = false := beq_eq_false_iff_ne.2 w3
      have k4 : (({ p with ws := W } : Piece).wrong [] i j == 4) = false := beq_eq_false_iff_ne.2 w4
      simp only [Piece.cells, Piece.layC, f2, List.not_mem_nil, RN, qA, qB, qC, qD, qE, qF]
      refine call_f (ds := [.agg [.int .i64 p.w, .int .i64 p.h, .int .i64 p.pl, .int .i64 p.ga, .int .i64 p.po, .slice false (p.cs.map Pt.dv), .slice false (W.map Wh.dv), .slice false (p.ms.map Ms.dv)], .int .i64 i, .int .i64 j]) (by simp [datumL, datum, datum0L, datum0, row_m, allD_t, Option.map_none, aggO_none, cells_agg, isDead_agg]) rfl hMij rfl ?_
      simp only [n0, k3, k4, f6, RN, qA, qB, qC, qD, qE, qF]
      exact up_same () f1 rfl trivial (by simp) (by simp) rfl rfl
     ·simp only [Piece.cells, Piece.layC, Int.lt_irrefl, g6, RN, qA, qB, qC, qD, qE, qF]
      exact up_same () g1 rfl trivial (by simp) (by simp) rfl rfl
    ·simp only [Piece.cells, Piece.layC, l2, Int.lt_irrefl, List.length_map, RN, qA, qB, qC, qD, qE, qF]
     refine call_d rfl rfl hkn ?_
     simp only [RN, qA, qB, qC, qD, qE, qF]
theorem PlateLaid_c (hkn : KnownC) (p : Piece) (o : List Int) : Pure Go.Tel.C F.law_PlateLaid [p.dv, .slice false (o.map intDV)] (.d (.bool true)) [] := by
 by_cases h : p.ws = []
 ·exact laid_none hkn p h o
 ·exact laid_some hkn p h o
end Go.Tel
