/-
  Part 3 of the proof of a law of plates, the law itself: an abstract machine over the model, contracts of functions, plain laws.
  Conditions: none.
-/
import Derived.Test.YticjmjdcggomgaaGreatDoorPlateReadsL02
set_option linter.all false
open Nat renaming reduceBEq → qA, reduceAdd → qB, reduceSub → qC, reduceEqDiff → qD, reduceLT → qE, reduceLeDiff → qF
namespace Go.Am
theorem set_last {α : Type} {l : List α} {x y : α} : (l ++ [x]).set l.length y = l ++ [y] := by simp
theorem frzW_p {b0 cs : List PV} {ar : List (Option Arr)} {t : Nat} {ts : List Nat} {K : St → Prop} {env : List (Nat × PV)} {d : DV} (h : datum ⟨[some b0, some cs], [], ar⟩ (.ptr 1 0) = some d) (hr : cs.flatMap refsB0 = [])
  (hK : ∀ ar', frzSt ts K ⟨(t, .d d) :: env, ⟨[some b0, some cs], [1], ar'⟩⟩) : frzW (.ptr 1 0) t ts K env ⟨[some b0, some cs], [], ar⟩ := by
 rw [frzW, frzV, h]
 have e : (⟨[some b0, some cs], [], ar⟩ : Mem).frz [.ptr 1 0] = ⟨[some b0, some cs], [1], frzA ([PV.ptr 1 0].flatMap (refsA ⟨[some b0, some cs], [], ar⟩)) ar⟩ := by
  simp [Mem.frz, refsB, Mem.box, hr]
 rw [e]
 exact hK _
end Go.Am
namespace Go.Tel
open Go.Am Go.Lib
def rlineS (p : Piece) (r : ByteArray) : Option Piece := match mapNum ((splitS r 32).drop 1) [] with
 | none => none
 | some x =>
  if ((splitS r 32).getD 0 default).data.toList = (wordsL.getD 0 default).data.toList then (if x.length = 5 then some ⟨x.getD 0 default, x.getD 1 default, x.getD 2 default, x.getD 3 default, x.getD 4 default, p.cs, p.ws, p.ms⟩ else none)
  else if ((splitS r 32).getD 0 default).data.toList = (wordsL.getD 1 default).data.toList then (if x.length = 2 then some { p with cs := p.cs ++ [⟨x.getD 0 default, x.getD 1 default⟩] } else none)
  else if ((splitS r 32).getD 0 default).data.toList = (wordsL.getD 2 default).data.toList then (if x.length = 4 then some { p with ws := p.ws ++ [⟨x.getD 0 default, x.getD 1 default, x.getD 2 default, x.getD 3 default⟩] } else none)
  else if ((splitS r 32).getD 0 default).data.toList = (wordsL.getD 3 default).data.toList then (if x.length = 2 then some { p with ms := p.ms ++ [⟨x.getD 0 default, x.getD 1 default⟩] } else none)
  else none
def rlinesS : List ByteArray → Piece → Option Piece
 | [], p => some p
 | r :: l, p => match rlineS p r with
  | some p' => rlinesS l p'
  | none => none
def rparsedS (s : ByteArray) : Option Piece := match rlinesS ((splitS s 10).take ((splitS s 10).length - 2)) zeroP with
 | some p => if p.print.data.toList = s.data.toList then some p else none
 | none => none
def rreadS (s : ByteArray) : Piece × Bool := match rparsedS s with
 | some p => (p, true)
 | none => (zeroP, false)
theorem rnum_some {w : ByteArray} {n : Int} (h : numberS w = some n) : rnum w = n := by rw [rnum, h]; rfl
theorem rnum_none {w : ByteArray} (h : numberS w = none) : rnum w = -1 := by rw [rnum, h]; rfl
theorem getD_take {α : Type} [Inhabited α] {l : List α} {n i : Nat} (h : i < n) : (l.take n).getD i default = l.getD i default := by
 rw [List.getD_eq_getElem?_getD, List.getD_eq_getElem?_getD, List.getElem?_take_of_lt h]
theorem datum0_d {M : Mem} {x : DV} : datum0 M (.d x) = some x := rfl
theorem datum0_eF {sz : Nat} {c : PV} {xs : List DV} {bs : List (Option (List PV))} {fz : List Nat} {ar : List (Option Arr)} (h : sl sz c xs ar) : datum0 ⟨bs, fz, ar⟩ c = some (.slice (eF c) xs) := by
 rcases h with ⟨rfl, rfl⟩ | ⟨k, ver, rfl, hk⟩
 ·rfl
 ·rw [datum0_tsl hk rfl]; rfl
set_option maxRecDepth 10000 in
set_option maxHeartbeats 4000000 in
theorem rRead_c (s : ByteArray) (hs : s.size ≤ 600) : Pure C F.ref_Read [.str s] (.d (.tup [(rreadS s).1.dv, .bool (rreadS s).2])) [] := by
 have hl := splitS_len s 10
 have hcb := Go.Lib.countB_le ⟨#[10]⟩ (Nat.le_refl _) s.size s (Nat.le_refl _)
 have hspl : Pure C F.ref_split [.str s, .int .u8 10] (.d (.slice false ((splitS s 10).map .str))) [] := rsplit_c s 10 (by omega)
 have hsz := splitS_size (s := s) (c := 10)
 have hU : rparsedS s = rparsedS s := rfl
 conv at hU => rhs; rw [rparsedS]
 have hfail : rparsedS s = none → ∀ (w : World) (X : Nat → Prop) (v : Value), RepD w X v (.tup [pdvG zeroP true true true, .bool false]) → RepD w X v (.tup [(rreadS s).1.dv, .bool (rreadS s).2]) := by
  intro h w X v hh
  rw [rreadS, h]; exact tup_weak _ _ _ hh
 refine pure_of_pwp_w mixed rfl ok_ref_Read ?_
 simp only [pc_ref_Read, rs_ref_Read, List.not_mem_nil, RN, qA, qB, qC, qD, qE, qF]
 refine call_d rfl rfl hspl ?_
 have hlb : (splitS s 10).length ≤ 601 := by omega
 have hl1 : 1 ≤ (splitS s 10).length := by omega
 generalize splitS s 10 = rows at *
 have v2 : IntKind.i64.wrap ((rows.length : Int) - 2) = (rows.length : Int) - 2 := w64_in (by omega)
 obtain ⟨L, hL⟩ : ∃ L, L = rows.take (rows.length - 2) := ⟨_, rfl⟩
 have hLl : L.length = rows.length - 2 := by rw [hL, List.length_take]; omega
 rw [← hL] at hU
 simp only [RN, qA, qB, qC, qD, qE, qF]
 refine pwp_range L.length (fun i (q : Piece × PV × PV × PV × List (Option Arr)) => ⟨[(0, .d (.str s)), (2, .ptr 0 0), (4, .ptr 1 0), (5, .d (.slice false (rows.map .str))), (6, .d (.int .i64 i))],
   ⟨[some noCs, some [.d (.int .i64 q.1.w), .d (.int .i64 q.1.h), .d (.int .i64 q.1.pl), .d (.int .i64 q.1.ga), .d (.int .i64 q.1.po), q.2.1, q.2.2.1, q.2.2.2.1]], [], q.2.2.2.2⟩⟩)
  (fun i q => rlinesS L zeroP = rlinesS (L.drop i) q.1 ∧ PRel q.1 q.2.1 q.2.2.1 q.2.2.2.1 q.2.2.2.2 ∧ q.1.three ∧ q.1.cs.length + q.1.ws.length + q.1.ms.length ≤ i)
  0 (zeroP, .d (.slice true []), .d (.slice true []), .d (.slice true []), []) (Nat.zero_le _) rfl
  ⟨rfl, ⟨.inl ⟨rfl, rfl⟩, .inl ⟨rfl, rfl⟩, .inl ⟨rfl, rfl⟩, fun k h => by (cases h), fun k h => by (cases h), fun k h => by (cases h)⟩, ⟨by decide, by simp [zeroP], by simp [zeroP], by simp [zeroP]⟩, Nat.le_refl _⟩ (fun i q g1 hix => ?_) (fun q hix => ?_)
 ·obtain ⟨p, c5, c6, c7, ar⟩ := q
  obtain ⟨r1, ⟨q5, q6, q7, qd56, qd57, qd67⟩, q3, qn⟩ := hix
  simp only at r1 q5 q6 q7 qd56 qd57 qd67 q3 qn
  obtain ⟨g2, g3', g6⟩ := rng g1 (by omega)
  have g1' : i < rows.length := by omega
  have g4 : (i : Int) < (rows.length : Int) - 2 := by omega
  have hrow := Nat.le_trans (hsz _ (getD_mem g1')) hs
  have hLg : L.getD i default = rows.getD i default := by rw [hL]; exact getD_take (by omega)
  rw [drop_cons g1, rlinesS, hLg] at r1
  simp only [List.length_map, v2, g4, g3', g1', getD_map, Int.toNat_natCast, dcells_str, RN, qA, qB, qC, qD, qE, qF]
  generalize rows.getD i default = row at *
  have hsp : Pure C F.ref_split [.str row, .int .u8 32] (.d (.slice false ((splitS row 32).map .str))) [] := rsplit_c row 32 (by omega)
  have hwl := splitS_len row 32
  have hwb := Go.Lib.countB_le ⟨#[32]⟩ (Nat.le_refl _) row.size row (Nat.le_refl _)
  have hws := splitS_size (s := row) (c := 32)
  have hw1 : 1 ≤ (splitS row 32).length := by omega
  have hwb2 : (splitS row 32).length ≤ 601 := by omega
  refine call_d rfl rfl hsp ?_
  have hlU : rlineS p row = rlineS p row := rfl
  conv at hlU => rhs; rw [rlineS]
  generalize splitS row 32 = ws at *
  simp only [ev_asgG_nil, RN, qA, qB, qC, qD, qE, qF]
  generalize hbx : ([some noCs, some [PV.d (.int .i64 p.w), .d (.int .i64 p.h), .d (.int .i64 p.pl), .d (.int .i64 p.ga), .d (.int .i64 p.po), c5, c6, c7]] : List (Option (List PV))) = bx
  refine pwp_range ws.length (fun k (t : List Int × Nat) => ⟨[(0, .d (.str s)), (2, .ptr 0 0), (4, .ptr 1 0), (5, .d (.slice false (rows.map .str))), (6, .d (.int .i64 i)), (7, .d (.slice false (ws.map .str))), (8, .tsl ar.length t.2 0), (9, .d (.int .i64 k))],
   ⟨bx, [], ar ++ [some ⟨1, t.1.map intDV, t.2, 0⟩]⟩⟩)
   (fun k t => mapNum (ws.drop 1) [] = mapNum (ws.drop k) t.1 ∧ t.1.length + 1 = k ∧ ∀ n ∈ t.1, 0 ≤ n ∧ n ≤ 999) 1 ([], 0) hw1 rfl ⟨rfl, rfl, by simp⟩ (fun k t e1 hjx => ?_) (fun t hjx => ?_)
  ·obtain ⟨xs, ver⟩ := t
   obtain ⟨s1, s2, s3⟩ := hjx
   simp only at s1 s2 s3
   obtain ⟨e2, e3, e6⟩ := rng e1 (by omega)
   have hwk := Nat.le_trans (hws _ (getD_mem e1)) hrow
   rw [drop_cons e1, mapNum] at s1
   simp only [e2, e3, e1, List.length_map, getD_map, Int.toNat_natCast, dcells_str, RN, qA, qB, qC, qD, qE, qF]
   generalize ws.getD k default = w at *
   refine call_d rfl rfl (rnumber_c w (by omega)) ?_
   cases hn : numberS w with
   | none =>
    rw [hn] at s1
    have x1 : (-1 : Int) < 0 := by decide
    subst hbx
    simp only [rnum_none hn, x1, noCs, RN, qA, qB, qC, qD, qE, qF]
    refine ⟨.tup [pdvG zeroP true true true, .bool false], rfl, hfail ?_⟩
    rw [hU, r1, hlU, s1]
   | some n =>
    rw [hn] at s1
    have hnb := numberS_bd hn
    have x1 : ¬ n < 0 := by omega
    simp only [rnum_some hn, x1, ev_mkSl1, DV.strip, dcells_int, List.getElem?_concat_length, fits_int, forall_eq, List.length_map, RN, qA, qB, qC, qD, qE, qF]
    refine ⟨by simp, by omega, ?_⟩
    simp only [e6, set_last, RN, qA, qB, qC, qD, qE, qF]
    refine up_refl (xs ++ [n], ver + 1) e1 ?_ ⟨s1, by simp only [List.length_append, List.length_cons, List.length_nil]; omega, ?_⟩
    ·simp only [List.map_append, List.map_cons, List.map_nil, dv_int]
    ·intro m hm
     rcases List.mem_append.1 hm with hm | hm
     ·exact s3 m hm
     ·rw [List.mem_singleton.1 hm]; exact hnb
  ·obtain ⟨xs, ver⟩ := t
   obtain ⟨s1, s2, s3⟩ := hjx
   simp only at s1 s2 s3
   rw [List.drop_length, mapNum] at s1
   have l0 : 0 < ws.length := by omega
   have i0 : (0 : Int) ≤ 0 := by decide
   rw [s1] at hlU
   simp only at hlU
   have hnx : ∀ j, 0 ≤ xs.getD j default ∧ xs.getD j default ≤ 999 := by
    intro j
    by_cases hj : j < xs.length
    ·exact s3 _ (getD_mem hj)
    ·rw [List.getD_eq_getElem?_getD, List.getElem?_eq_none (by omega)]; decide
   simp only [Int.lt_irrefl, List.length_map, i0, l0, Int.toNat_zero, getD_map, dcells_str, RN, qA, qB, qC, qD, qE, qF]
   generalize ws.getD 0 default = w0 at *
   have hb : ∀ k, (w0.toList == (wordsL.getD k default).toList) = decide (w0.data.toList = (wordsL.getD k default).data.toList) := by
    intro k; rw [Go.Lib.toList_data, Go.Lib.toList_data]; exact Bool.eq_iff_iff.2 (by rw [beq_iff_eq, decide_eq_true_eq])
   have hb0 : (w0.toList == (⟨#[112, 105, 101, 99, 101]⟩ : ByteArray).toList) = _ := hb 0
   have hb1 : (w0.toList == (⟨#[99, 101, 110, 116, 114, 101]⟩ : ByteArray).toList) = _ := hb 1
   have hb2 : (w0.toList == (⟨#[119, 104, 101, 101, 108]⟩ : ByteArray).toList) = _ := hb 2
   have hb3 : (w0.toList == (⟨#[109, 101, 115, 104]⟩ : ByteArray).toList) = _ := hb 3
   have hsx : sl 1 (.tsl ar.length ver 0) (xs.map intDV) (ar ++ [some ⟨1, xs.map intDV, ver, 0⟩]) := .inr ⟨ar.length, ver, rfl, List.getElem?_concat_length⟩
   have hat : (ar ++ [some (⟨1, xs.map intDV, ver, 0⟩ : Arr)])[ar.length]? = some (some ⟨1, xs.map intDV, ver, 0⟩) := List.getElem?_concat_length
   obtain ⟨ar2, har2⟩ : ∃ ar2, ar2 = ar ++ [some (⟨1, xs.map intDV, ver, 0⟩ : Arr)] := ⟨_, rfl⟩
   rw [← har2] at hsx hat
   rw [← har2]
   have keep : ∀ {sz c ys}, sl sz c ys ar → sl sz c ys ar2 := fun h => sl_keep h fun k A h1 h2 => by
    rw [har2, List.getElem?_append_left (List.getElem?_eq_some_iff.1 h2).1]; exact h2
   have q5 := keep q5
   have q6 := keep q6
   have q7 := keep q7
   clear har2 keep
   have hlen : ∀ {m : Nat}, ¬ xs.length = m → ((xs.length : Int) != (m : Int)) = true := fun h => by rw [bne_iff_ne]; omega
   have hlen2 : ∀ {m : Nat}, xs.length = m → ((xs.length : Int) != (m : Int)) = false := fun h => by rw [h]; exact bne_self_eq_false _
   by_cases c0 : w0.data.toList = (wordsL.getD 0 default).data.toList
   ·rw [decide_eq_true c0] at hb0
    rw [if_pos c0] at hlU
    by_cases l5 : xs.length = 5
    ·have y5 : ((xs.length : Int) != 5) = false := hlen2 l5
     rw [if_pos l5] at hlU
     subst hbx
     have m0 : (0 : Int) ≤ 0 ∧ Int.toNat 0 < xs.length := by rw [l5]; decide
     have m1 : (0 : Int) ≤ 1 ∧ Int.toNat 1 < xs.length := by rw [l5]; decide
     have m2 : (0 : Int) ≤ 2 ∧ Int.toNat 2 < xs.length := by rw [l5]; decide
     have m3 : (0 : Int) ≤ 3 ∧ Int.toNat 3 < xs.length := by rw [l5]; decide
     have m4 : (0 : Int) ≤ 4 ∧ Int.toNat 4 < xs.length := by rw [l5]; decide
     simp only [bin_str, str_eql, hb0, len_rel hsx, List.length_map, y5, hat, m0, m1, m2, m3, m4, getD_map, dv_int, dcells_int, RN, qA, qB, qC, qD, qE, qF]
     simp only [g6, RN, qA, qB, qC, qD, qE, qF]
     refine up_refl (⟨xs.getD 0 default, xs.getD 1 default, xs.getD 2 default, xs.getD 3 default, xs.getD 4 default, p.cs, p.ws, p.ms⟩, c5, c6, c7, ar2) g1 rfl ⟨by rw [r1, hlU], ⟨q5, q6, q7, qd56, qd57, qd67⟩, { q3 with nums := ?_ }, by simp only; omega⟩
     intro n hn
     simp only [Piece.nums, List.mem_cons, List.not_mem_nil, or_false] at hn
     rcases hn with rfl | rfl | rfl | rfl | rfl <;> exact hnx _
    ·have y5 : ((xs.length : Int) != 5) = true := hlen l5
     rw [if_neg l5] at hlU
     subst hbx
     simp only [bin_str, str_eql, hb0, len_rel hsx, List.length_map, y5, noCs, RN, qA, qB, qC, qD, qE, qF]
     refine ⟨.tup [pdvG zeroP true true true, .bool false], rfl, hfail ?_⟩
     rw [hU, r1, hlU]
   rw [decide_eq_false c0] at hb0
   rw [if_neg c0] at hlU
   by_cases c1 : w0.data.toList = (wordsL.getD 1 default).data.toList
   ·rw [decide_eq_true c1] at hb1
    rw [if_pos c1] at hlU
    by_cases l5 : xs.length = 2
    ·have y5 : ((xs.length : Int) != 2) = false := hlen2 l5
     rw [if_pos l5] at hlU
     subst hbx
     have m0 : (0 : Int) ≤ 0 ∧ Int.toNat 0 < xs.length := by rw [l5]; decide
     have m1 : (0 : Int) ≤ 1 ∧ Int.toNat 1 < xs.length := by rw [l5]; decide
     simp only [bin_str, str_eql, hb0, hb1, len_rel hsx, List.length_map, y5, hat, m0, m1, getD_map, dv_int, dcells_int, ev_mkSl1, DV.strip, dcells_agg, RN, qA, qB, qC, qD, qE, qF]
     refine app_rel2 q5 (by decide) rfl (by rw [List.length_map]; omega) (fun k' v' ar' h1 h2 => ?_)
     simp only [cells_t, one_t, g6, RN, qA, qB, qC, qD, qE, qF]
     refine up_refl ({ p with cs := p.cs ++ [⟨xs.getD 0 default, xs.getD 1 default⟩] }, .tsl k' v' 0, c6, c7, ar') g1 rfl ⟨by rw [r1, hlU], ?_, { q3 with cs := ?_ }, ?_⟩
     ·obtain ⟨a1, a2⟩ := h2 4 c6 _ q6 qd56
      obtain ⟨b1, b2⟩ := h2 2 c7 _ q7 qd57
      exact ⟨by rw [List.map_append]; exact h1, a1, b1, a2, b2, qd67⟩
     ·intro c hc
      rcases List.mem_append.1 hc with hc | hc
      ·exact q3.cs c hc
      ·rw [List.mem_singleton.1 hc]
       intro n hn
       simp only [Pt.nums, List.mem_cons, List.not_mem_nil, or_false] at hn
       rcases hn with rfl | rfl <;> exact hnx _
     ·simp only [List.length_append, List.length_cons, List.length_nil]; omega
    ·have y5 : ((xs.length : Int) != 2) = true := hlen l5
     rw [if_neg l5] at hlU
     subst hbx
     simp only [bin_str, str_eql, hb0, hb1, len_rel hsx, List.length_map, y5, noCs, RN, qA, qB, qC, qD, qE, qF]
     refine ⟨.tup [pdvG zeroP true true true, .bool false], rfl, hfail ?_⟩
     rw [hU, r1, hlU]
   rw [decide_eq_false c1] at hb1
   rw [if_neg c1] at hlU
   by_cases c2 : w0.data.toList = (wordsL.getD 2 default).data.toList
   ·rw [decide_eq_true c2] at hb2
    rw [if_pos c2] at hlU
    by_cases l5 : xs.length = 4
    ·have y5 : ((xs.length : Int) != 4) = false := hlen2 l5
     rw [if_pos l5] at hlU
     subst hbx
     have m0 : (0 : Int) ≤ 0 ∧ Int.toNat 0 < xs.length := by rw [l5]; decide
     have m1 : (0 : Int) ≤ 1 ∧ Int.toNat 1 < xs.length := by rw [l5]; decide
     have m2 : (0 : Int) ≤ 2 ∧ Int.toNat 2 < xs.length := by rw [l5]; decide
     have m3 : (0 : Int) ≤ 3 ∧ Int.toNat 3 < xs.length := by rw [l5]; decide
     simp only [bin_str, str_eql, hb0, hb1, hb2, len_rel hsx, List.length_map, y5, hat, m0, m1, m2, m3, getD_map, dv_int, dcells_int, ev_mkSl1, DV.strip, dcells_agg, RN, qA, qB, qC, qD, qE, qF]
     refine app_rel2 q6 (by decide) rfl (by rw [List.length_map]; omega) (fun k' v' ar' h1 h2 => ?_)
     simp only [cells_t, one_t, g6, RN, qA, qB, qC, qD, qE, qF]
     refine up_refl ({ p with ws := p.ws ++ [⟨xs.getD 0 default, xs.getD 1 default, xs.getD 2 default, xs.getD 3 default⟩] }, c5, .tsl k' v' 0, c7, ar') g1 rfl ⟨by rw [r1, hlU], ?_, { q3 with ws := ?_ }, ?_⟩
     ·obtain ⟨a1, a2⟩ := h2 2 c5 _ q5 (dist_symm qd56)
      obtain ⟨b1, b2⟩ := h2 2 c7 _ q7 qd67
      exact ⟨a1, by rw [List.map_append]; exact h1, b1, dist_symm a2, qd57, b2⟩
     ·intro c hc
      rcases List.mem_append.1 hc with hc | hc
      ·exact q3.ws c hc
      ·rw [List.mem_singleton.1 hc]
       intro n hn
       simp only [Wh.nums, List.mem_cons, List.not_mem_nil, or_false] at hn
       rcases hn with rfl | rfl | rfl | rfl <;> exact hnx _
     ·simp only [List.length_append, List.length_cons, List.length_nil]; omega
    ·have y5 : ((xs.length : Int) != 4) = true := hlen l5
     rw [if_neg l5] at hlU
     subst hbx
     simp only [bin_str, str_eql, hb0, hb1, hb2, len_rel hsx, List.length_map, y5, noCs, RN, qA, qB, qC, qD, qE, qF]
     refine ⟨.tup [pdvG zeroP true true true, .bool false], rfl, hfail ?_⟩
     rw [hU, r1, hlU]
   rw [decide_eq_false c2] at hb2
   rw [if_neg c2] at hlU
   by_cases c3 : w0.data.toList = (wordsL.getD 3 default).data.toList
   ·rw [decide_eq_true c3] at hb3
    rw [if_pos c3] at hlU
    by_cases l5 : xs.length = 2
    ·have y5 : ((xs.length : Int) != 2) = false := hlen2 l5
     rw [if_pos l5] at hlU
     subst hbx
     have m0 : (0 : Int) ≤ 0 ∧ Int.toNat 0 < xs.length := by rw [l5]; decide
     have m1 : (0 : Int) ≤ 1 ∧ Int.toNat 1 < xs.length := by rw [l5]; decide
     simp only [bin_str, str_eql, hb0, hb1, hb2, hb3, len_rel hsx, List.length_map, y5, hat, m0, m1, getD_map, dv_int, dcells_int, ev_mkSl1, DV.strip, dcells_agg, RN, qA, qB, qC, qD, qE, qF]
     refine app_rel2 q7 (by decide) rfl (by rw [List.length_map]; omega) (fun k' v' ar' h1 h2 => ?_)
     simp only [cells_t, one_t, g6, RN, qA, qB, qC, qD, qE, qF]
     refine up_refl ({ p with ms := p.ms ++ [⟨xs.getD 0 default, xs.getD 1 default⟩] }, c5, c6, .tsl k' v' 0, ar') g1 rfl ⟨by rw [r1, hlU], ?_, { q3 with ms := ?_ }, ?_⟩
     ·obtain ⟨a1, a2⟩ := h2 2 c5 _ q5 (dist_symm qd57)
      obtain ⟨b1, b2⟩ := h2 4 c6 _ q6 (dist_symm qd67)
      exact ⟨a1, b1, by rw [List.map_append]; exact h1, qd56, dist_symm a2, dist_symm b2⟩
     ·intro c hc
      rcases List.mem_append.1 hc with hc | hc
      ·exact q3.ms c hc
      ·rw [List.mem_singleton.1 hc]
       intro n hn
       simp only [Ms.nums, List.mem_cons, List.not_mem_nil, or_false] at hn
       rcases hn with rfl | rfl <;> exact hnx _
     ·simp only [List.length_append, List.length_cons, List.length_nil]; omega
    ·have y5 : ((xs.length : Int) != 2) = true := hlen l5
     rw [if_neg l5] at hlU
     subst hbx
     simp only [bin_str, str_eql, hb0, hb1, hb2, hb3, len_rel hsx, List.length_map, y5, noCs, RN, qA, qB, qC, qD, qE, qF]
     refine ⟨.tup [pdvG zeroP true true true, .bool false], rfl, hfail ?_⟩
     rw [hU, r1, hlU]
   rw [decide_eq_false c3] at hb3
   rw [if_neg c3] at hlU
   subst hbx
   simp only [bin_str, str_eql, hb0, hb1, hb2, hb3, noCs, RN, qA, qB, qC, qD, qE, qF]
   refine ⟨.tup [pdvG zeroP true true true, .bool false], rfl, hfail ?_⟩
   rw [hU, r1, hlU]
 ·obtain ⟨p, c5, c6, c7, ar⟩ := q
  obtain ⟨r1, ⟨q5, q6, q7, qd56, qd57, qd67⟩, q3, qn⟩ := hix
  simp only at r1 q5 q6 q7 qd56 qd57 qd67 q3 qn
  rw [List.drop_length, rlinesS] at r1
  have g4 : ¬ (L.length : Int) < (rows.length : Int) - 2 := by omega
  simp only [List.length_map, v2, g4, noCs, RN, qA, qB, qC, qD, qE, qF]
  have htext : ∀ f5 f6 f7, Pure C F.ref_Print [pdvG p f5 f6 f7] (.d (.str p.print)) [] := fun f5 f6 f7 => pure_weaken1 pdvG_weak (Print_c p (three_tiny q3 (by omega) (by omega) (by omega)))
  have hbt : (p.print.toList == s.toList) = decide (p.print.data.toList = s.data.toList) := by
   rw [Go.Lib.toList_data, Go.Lib.toList_data]; exact Bool.eq_iff_iff.2 (by rw [beq_iff_eq, decide_eq_true_eq])
  have hU' : rparsedS s = if p.print.data.toList = s.data.toList then some p else none := by rw [hU, r1]
  have hdat : ∀ b0 : List PV, datum ⟨[some b0, some [.d (.int .i64 p.w), .d (.int .i64 p.h), .d (.int .i64 p.pl), .d (.int .i64 p.ga), .d (.int .i64 p.po), c5, c6, c7]], [], ar⟩ (.ptr 1 0) =
    some (.cptr [.int .i64 p.w, .int .i64 p.h, .int .i64 p.pl, .int .i64 p.ga, .int .i64 p.po, .slice (eF c5) (p.cs.map Pt.dv), .slice (eF c6) (p.ws.map Wh.dv), .slice (eF c7) (p.ms.map Ms.dv)]) := by
   intro b0
   simp [datum, datum0L, Mem.box, datum0_eF q5, datum0_eF q6, datum0_eF q7, datum0_d]
  obtain ⟨f5, hf5⟩ : ∃ f, f = eF c5 := ⟨_, rfl⟩
  obtain ⟨f6, hf6⟩ : ∃ f, f = eF c6 := ⟨_, rfl⟩
  obtain ⟨f7, hf7⟩ : ∃ f, f = eF c7 := ⟨_, rfl⟩
  clear qd56 qd57 qd67
  rcases q5 with ⟨rfl, z5⟩ | ⟨k5, v5, rfl, z5⟩ <;> rcases q6 with ⟨rfl, z6⟩ | ⟨k6, v6, rfl, z6⟩ <;> rcases q7 with ⟨rfl, z7⟩ | ⟨k7, v7, rfl, z7⟩
  all_goals
   simp only [eF] at hf5 hf6 hf7 hdat
   have hf5 := hf5.symm
   have hf6 := hf6.symm
   have hf7 := hf7.symm
   refine call_f (ds := [pdvG p f5 f6 f7]) (by subst hf5 hf6 hf7; simp [datumL, datum, datum0, datum0L, row_m, pdvG, allD, aggO, z5, z6, z7]) rfl (htext _ _ _) rfl ?_
   by_cases e : p.print.data.toList = s.data.toList
   ·rw [decide_eq_true e] at hbt
    rw [if_pos e] at hU'
    simp only [bin_str, str_neq, hbt, hdat, allD_t, Option.map_none, aggO_none, cells_agg, cells_t, one_t, isDead_agg, isAgg_agg, RN, qA, qB, qC, qD, qE, qF]
    try refine frzW_p (hdat _) rfl (fun ar' => ?_)
    try simp only [RN, qA, qB, qC, qD, qE, qF]
    exact ⟨.tup [pdvG p f5 f6 f7, .bool true], by subst hf5 hf6 hf7; simp [datum, datum0, datum0L, row_m, pdvG, allD, aggO, tupO, z5, z6, z7], by rw [rreadS, hU']; exact tup_weak⟩
   ·rw [decide_eq_false e] at hbt
    rw [if_neg e] at hU'
    simp only [bin_str, str_neq, hbt, hdat, RN, qA, qB, qC, qD, qE, qF]
    try refine frzW_p (hdat _) rfl (fun ar' => ?_)
    try simp only [RN, qA, qB, qC, qD, qE, qF]
    exact ⟨.tup [pdvG zeroP true true true, .bool false], rfl, hfail hU'⟩
end Go.Tel
namespace Go.Tel
open Go.Am Go.Lib
theorem zero_three : zeroP.three := ⟨by decide, by simp [zeroP], by simp [zeroP], by simp [zeroP]⟩
theorem mem_snoc {α : Type} {l : List α} {x : α} {P : α → Prop} (h : ∀ y ∈ l, P y) (hx : P x) : ∀ y ∈ l ++ [x], P y := by
 intro y hy
 rcases List.mem_append.1 hy with hy | hy
 ·exact h y hy
 ·rw [List.mem_singleton.1 hy]; exact hx
theorem nums2 {ns : List Int} (h : ∀ i, 0 ≤ ns.getD i default ∧ ns.getD i default ≤ 999) : ∀ n ∈ [ns.getD 0 default, ns.getD 1 default], 0 ≤ n ∧ n ≤ 999 := by
 intro n hn
 simp only [List.mem_cons, List.not_mem_nil, or_false] at hn
 rcases hn with rfl | rfl <;> exact h _
theorem nums4 {ns : List Int} (h : ∀ i, 0 ≤ ns.getD i default ∧ ns.getD i default ≤ 999) : ∀ n ∈ [ns.getD 0 default, ns.getD 1 default, ns.getD 2 default, ns.getD 3 default], 0 ≤ n ∧ n ≤ 999 := by
 intro n hn
 simp only [List.mem_cons, List.not_mem_nil, or_false] at hn
 rcases hn with rfl | rfl | rfl | rfl <;> exact h _
theorem nums5 {ns : List Int} (h : ∀ i, 0 ≤ ns.getD i default ∧ ns.getD i default ≤ 999) : ∀ n ∈ [ns.getD 0 default, ns.getD 1 default, ns.getD 2 default, ns.getD 3 default, ns.getD 4 default], 0 ≤ n ∧ n ≤ 999 := by
 intro n hn
 simp only [List.mem_cons, List.not_mem_nil, or_false] at hn
 rcases hn with rfl | rfl | rfl | rfl | rfl <;> exact h _
theorem line_three {p q : Piece} {r : ByteArray} (h : p.three) (hq : lineS p r = some q) : q.three := by
 rw [lineS] at hq
 split at hq
 ·cases ht : toldS r 1 2 with
  | none => rw [ht] at hq; cases hq
  | some ns => rw [ht] at hq; cases hq; exact { h with cs := mem_snoc h.cs (nums2 (toldS_bd ht).2) }
 ·split at hq
  ·cases ht : toldS r 2 4 with
   | none => rw [ht] at hq; cases hq
   | some ns => rw [ht] at hq; cases hq; exact { h with ws := mem_snoc h.ws (nums4 (toldS_bd ht).2) }
  ·cases ht : toldS r 3 2 with
   | none => rw [ht] at hq; cases hq
   | some ns => rw [ht] at hq; cases hq; exact { h with ms := mem_snoc h.ms (nums2 (toldS_bd ht).2) }
theorem lines_three : ∀ {l : List ByteArray} {p q : Piece}, p.three → linesS l p = some q → q.three
 | [], p, q, h, hq => by rw [linesS] at hq; cases hq; exact h
 | r :: l, p, q, h, hq => by
  rw [linesS] at hq
  cases hr : lineS p r with
  | none => rw [hr] at hq; cases hq
  | some p' => rw [hr] at hq; exact lines_three (line_three h hr) hq
theorem parsed_three {s : ByteArray} {p : Piece} (h : parsedS s = some p) : p.three ∧ p.text = s := by
 rw [parsedS] at h
 split at h
 ·cases ht : toldS ((splitS s 10).getD 0 default) 0 5 with
  | none => rw [ht] at h; cases h
  | some ns =>
   rw [ht] at h
   simp only at h
   cases hl : linesS (((splitS s 10).take ((splitS s 10).length - 2)).drop 1) ⟨ns.getD 0 default, ns.getD 1 default, ns.getD 2 default, ns.getD 3 default, ns.getD 4 default, [], [], []⟩ with
   | none => rw [hl] at h; cases h
   | some q =>
    rw [hl] at h
    simp only at h
    split at h
    ·rename_i he
     cases h
     refine ⟨lines_three ?_ hl, bext he⟩
     exact ⟨nums5 (toldS_bd ht).2, by simp, by simp, by simp⟩
    ·cases h
 ·cases h
theorem mapNum_get {l : List ByteArray} {x : List Int} (h : mapNum l [] = some x) : ∀ i, 0 ≤ x.getD i default ∧ x.getD i default ≤ 999 := by
 intro j
 by_cases hj : j < x.length
 ·exact (mapNum_bd l [] x h (by simp)).2 _ (getD_mem hj)
 ·rw [List.getD_eq_getElem?_getD, List.getElem?_eq_none (by omega)]; decide
theorem rline_three {p q : Piece} {r : ByteArray} (h : p.three) (hq : rlineS p r = some q) : q.three := by
 rw [rlineS] at hq
 cases hm : mapNum ((splitS r 32).drop 1) [] with
 | none => rw [hm] at hq; cases hq
 | some x =>
  rw [hm] at hq
  simp only at hq
  have hb := mapNum_get hm
  split at hq
  ·split at hq
   ·cases hq; exact { h with nums := nums5 hb }
   ·cases hq
  ·split at hq
   ·split at hq
    ·cases hq; exact { h with cs := mem_snoc h.cs (nums2 hb) }
    ·cases hq
   ·split at hq
    ·split at hq
     ·cases hq; exact { h with ws := mem_snoc h.ws (nums4 hb) }
     ·cases hq
    ·split at hq
     ·split at hq
      ·cases hq; exact { h with ms := mem_snoc h.ms (nums2 hb) }
      ·cases hq
     ·cases hq
theorem rlines_three : ∀ {l : List ByteArray} {p q : Piece}, p.three → rlinesS l p = some q → q.three
 | [], p, q, h, hq => by rw [rlinesS] at hq; cases hq; exact h
 | r :: l, p, q, h, hq => by
  rw [rlinesS] at hq
  cases hr : rlineS p r with
  | none => rw [hr] at hq; cases hq
  | some p' => rw [hr] at hq; exact rlines_three (rline_three h hr) hq
theorem rparsed_three {s : ByteArray} {p : Piece} (h : rparsedS s = some p) : p.three ∧ p.text = s := by
 rw [rparsedS] at h
 cases hl : rlinesS ((splitS s 10).take ((splitS s 10).length - 2)) zeroP with
 | none => rw [hl] at h; cases h
 | some q =>
  rw [hl] at h
  simp only at h
  split at h
  ·rename_i he
   cases h
   have h3 := rlines_three zero_three hl
   exact ⟨h3, by rw [← print_eq h3]; exact bext he⟩
  ·cases h
theorem rnums_row {k : Nat} (hk : k < 4) {ns : List Int} (h : ∀ n ∈ ns, 0 ≤ n ∧ n ≤ 999) : mapNum ((splitS (addNums (wordsL.getD k default) ns) 32).drop 1) [] = some ns ∧ (splitS (addNums (wordsL.getD k default) ns) 32).getD 0 default = wordsL.getD k default := by
 rw [split_row hk fun n hn => (h n hn).1]
 refine ⟨?_, rfl⟩
 have := mapNum_itoa ns [] h
 simpa using this
theorem rline_0 {p q : Piece} (h : ∀ n ∈ q.nums, 0 ≤ n ∧ n ≤ 999) : rlineS p (addNums (wordsL.getD 0 default) q.nums) = some ⟨q.w, q.h, q.pl, q.ga, q.po, p.cs, p.ws, p.ms⟩ := by
 obtain ⟨h1, h2⟩ := rnums_row (k := 0) (by decide) h
 rw [rlineS, h1, h2]; rfl
theorem rline_c {p : Piece} {c : Pt} (h : ∀ n ∈ c.nums, 0 ≤ n ∧ n ≤ 999) : rlineS p (csRow c) = some { p with cs := p.cs ++ [c] } := by
 obtain ⟨h1, h2⟩ := rnums_row (k := 1) (by decide) h
 have e : csRow c = addNums (wordsL.getD 1 default) c.nums := rfl
 rw [e, rlineS, h1, h2]; rfl
theorem rline_w {p : Piece} {c : Wh} (h : ∀ n ∈ c.nums, 0 ≤ n ∧ n ≤ 999) : rlineS p (wsRow c) = some { p with ws := p.ws ++ [c] } := by
 obtain ⟨h1, h2⟩ := rnums_row (k := 2) (by decide) h
 have e : wsRow c = addNums (wordsL.getD 2 default) c.nums := rfl
 rw [e, rlineS, h1, h2]; rfl
theorem rline_m {p : Piece} {c : Ms} (h : ∀ n ∈ c.nums, 0 ≤ n ∧ n ≤ 999) : rlineS p (msRow c) = some { p with ms := p.ms ++ [c] } := by
 obtain ⟨h1, h2⟩ := rnums_row (k := 3) (by decide) h
 have e : msRow c = addNums (wordsL.getD 3 default) c.nums := rfl
 rw [e, rlineS, h1, h2]; rfl
theorem rlines_app : ∀ (l r : List ByteArray) (p : Piece), rlinesS (l ++ r) p = (rlinesS l p).bind (rlinesS r)
 | [], r, p => rfl
 | x :: l, r, p => by
  rw [List.cons_append, rlinesS, rlinesS]
  cases rlineS p x with
  | none => rfl
  | some q => exact rlines_app l r q
theorem rlines_c : ∀ (l : List Pt) (p : Piece), (∀ c ∈ l, ∀ n ∈ c.nums, 0 ≤ n ∧ n ≤ 999) → rlinesS (l.map csRow) p = some { p with cs := p.cs ++ l }
 | [], p, _ => by simp [rlinesS]
 | c :: l, p, h => by
  rw [List.map_cons, rlinesS, rline_c (h c List.mem_cons_self)]
  simp only
  rw [rlines_c l _ fun x hx => h x (List.mem_cons_of_mem _ hx)]
  simp
theorem rlines_w : ∀ (l : List Wh) (p : Piece), (∀ c ∈ l, ∀ n ∈ c.nums, 0 ≤ n ∧ n ≤ 999) → rlinesS (l.map wsRow) p = some { p with ws := p.ws ++ l }
 | [], p, _ => by simp [rlinesS]
 | c :: l, p, h => by
  rw [List.map_cons, rlinesS, rline_w (h c List.mem_cons_self)]
  simp only
  rw [rlines_w l _ fun x hx => h x (List.mem_cons_of_mem _ hx)]
  simp
theorem rlines_m : ∀ (l : List Ms) (p : Piece), (∀ c ∈ l, ∀ n ∈ c.nums, 0 ≤ n ∧ n ≤ 999) → rlinesS (l.map msRow) p = some { p with ms := p.ms ++ l }
 | [], p, _ => by simp [rlinesS]
 | c :: l, p, h => by
  rw [List.map_cons, rlinesS, rline_m (h c List.mem_cons_self)]
  simp only
  rw [rlines_m l _ fun x hx => h x (List.mem_cons_of_mem _ hx)]
  simp
theorem rparsed_text {p : Piece} (h : p.three) : rparsedS p.text = some p := by
 have hsp := split_text h
 have hr : p.rows = addNums (wordsL.getD 0 default) p.nums :: (p.cs.map csRow ++ p.ws.map wsRow ++ p.ms.map msRow) := rfl
 have hlen : (splitS p.text 10).length = p.rows.length + 2 := by rw [hsp, List.length_append]; rfl
 have ht : (splitS p.text 10).take ((splitS p.text 10).length - 2) = p.rows := by
  rw [hlen, Nat.add_sub_cancel, hsp, List.take_left]
 have hl : rlinesS p.rows zeroP = some p := by
  rw [hr, rlinesS, rline_0 (p := zeroP) (q := p) h.nums]
  simp only
  rw [rlines_app, rlines_app, rlines_c _ _ h.cs]
  simp only [Option.bind_some]
  rw [rlines_w _ _ h.ws]
  simp only [Option.bind_some]
  rw [rlines_m _ _ h.ms]
  rfl
 rw [rparsedS, ht, hl]
 simp only
 rw [if_pos (by rw [print_eq h])]
theorem parsed_same (s : ByteArray) : rparsedS s = parsedS s := by
 cases h : parsedS s with
 | some p =>
  obtain ⟨h1, rfl⟩ := parsed_three h
  exact rparsed_text h1
 | none =>
  cases h2 : rparsedS s with
  | none => rfl
  | some p =>
   obtain ⟨h3, rfl⟩ := rparsed_three h2
   rw [parsed_text h3] at h; cases h
end Go.Tel
open Nat renaming reduceBEq → qA, reduceAdd → qB, reduceSub → qC, reduceEqDiff → qD, reduceLT → qE, reduceLeDiff → qF
namespace Go.Tel
open Go.Am Go.Lib
theorem linesOf_ge (c : UInt8) : ∀ xs : List (List UInt8), xs.length ≤ (linesOf c xs).length
 | [] => by simp [linesOf]
 | x :: xs => by
  have e : linesOf c (x :: xs) = x ++ [c] ++ linesOf c xs := by simp [linesOf]
  have := linesOf_ge c xs
  rw [e, List.length_append, List.length_append, List.length_singleton, List.length_cons]
  omega
theorem text_rows (p : Piece) : p.cs.length + p.ws.length + p.ms.length ≤ p.text.size := by
 have h := linesOf_ge 10 ((p.rows ++ [endRow ((chkRows p.rows 0 0).tmod 127)]).map (·.data.toList))
 rw [← text_data, size_data] at h
 simp only [List.length_map, List.length_append, List.length_singleton, Piece.rows, List.length_cons] at h
 omega
set_option maxRecDepth 10000 in
set_option maxHeartbeats 4000000 in
theorem PlateReads_c (hkn : KnownC) (s : ByteArray) : Pure Go.Tel.C F.law_PlateReads [.str s] (.d (.bool true)) [] := by
 have hkn : Pure C F.law_known [] (.d (.bool true)) [] := hkn
 have y0 : ((0 : Int) == 0) = true := rfl
 have y2 : ((2 : Int) == 2) = true := rfl
 have y3 : ((3 : Int) == 3) = true := rfl
 have y4 : ((4 : Int) == 4) = true := rfl
 have n0 : ((0 : Int) != 0) = false := rfl
 have n2 : ((2 : Int) != 0) = true := rfl
 have n3 : ((3 : Int) != 0) = true := rfl
 have n4 : ((4 : Int) != 0) = true := rfl
 have hz := SamePieces_c zeroP (by decide) (by decide) (by decide)
 rw [dv_Piece] at hz
 refine pure_of_pwp_d mixed rfl ok_law_PlateReads ?_
 by_cases h6 : s.size > 600
 ·have b6 : (s.size : Int) > 600 := by omega
  simp only [pc_law_PlateReads, rs_law_PlateReads, b6, RN, qA, qB, qC, qD, qE, qF]
  refine call_d rfl rfl hkn ?_
  simp only [RN, qA, qB, qC, qD, qE, qF]
 have b6 : ¬ (s.size : Int) > 600 := by omega
 have h1 := Read_c s
 have h2 := rRead_c s (by omega)
 simp only [pc_law_PlateReads, rs_law_PlateReads, b6, RN, qA, qB, qC, qD, qE, qF]
 refine call_d rfl rfl h1 ?_
 by_cases h5 : s.size > 500
 ·have b5 : (s.size : Int) > 500 := by omega
  have e1 : readS s = (zeroP, 3) := by rw [readS, if_pos h5]
  rw [e1]
  simp only [dv_Piece, RN, qA, qB, qC, qD, qE, qF]
  refine call_d rfl rfl h2 ?_
  simp only [dv_Piece, b5, y3, n3, RN, qA, qB, qC, qD, qE, qF]
  refine call_d rfl rfl hz ?_
  simp only [RN, qA, qB, qC, qD, qE, qF]
  refine call_d rfl rfl hkn ?_
  simp only [RN, qA, qB, qC, qD, qE, qF]
 have b5 : ¬ (s.size : Int) > 500 := by omega
 cases hp : parsedS s with
 | none =>
  have e1 : readS s = (zeroP, 4) := by rw [readS, if_neg h5, hp]
  have e2 : rreadS s = (zeroP, false) := by rw [rreadS, parsed_same, hp]
  rw [e2] at h2
  rw [e1]
  simp only [dv_Piece, RN, qA, qB, qC, qD, qE, qF]
  refine call_d rfl rfl h2 ?_
  simp only [dv_Piece, b5, y4, n4, RN, qA, qB, qC, qD, qE, qF]
  refine call_d rfl rfl hz ?_
  simp only [RN, qA, qB, qC, qD, qE, qF]
  refine call_d rfl rfl hkn ?_
  simp only [RN, qA, qB, qC, qD, qE, qF]
 | some p =>
  have e2 : rreadS s = (p, true) := by rw [rreadS, parsed_same, hp]
  rw [e2] at h2
  obtain ⟨h3, hs⟩ := parsed_three hp
  have hrw := text_rows p
  have hlen : p.text.size = s.size := by rw [hs]
  have h4 := rPiece_c p (by omega) (by omega) (by omega)
  have h7 := PrintP_c p (by omega) (by omega) (by omega)
  have h8 := SamePieces_c p (by omega) (by omega) (by omega)
  rw [dv_Piece] at h4 h7 h8
  cases hok : p.ok
  ·have e1 : readS s = (zeroP, 2) := by rw [readS, if_neg h5, hp]; simp only [hok]; rfl
   rw [hok] at h4
   rw [e1]
   simp only [dv_Piece, RN, qA, qB, qC, qD, qE, qF]
   refine call_d rfl rfl h2 ?_
   simp only [dv_Piece, b5, RN, qA, qB, qC, qD, qE, qF]
   refine call_d rfl rfl h4 ?_
   simp only [y2, n2, RN, qA, qB, qC, qD, qE, qF]
   refine call_d rfl rfl hz ?_
   simp only [RN, qA, qB, qC, qD, qE, qF]
   refine call_d rfl rfl hkn ?_
   simp only [RN, qA, qB, qC, qD, qE, qF]
  ·have e1 : readS s = (p, 0) := by rw [readS, if_neg h5, hp]; simp only [hok, if_true]
   have e3 : p.printS = (s, 0) := by rw [Piece.printS, hok, hs]; rfl
   have yt : (s.toList == s.toList) = true := beq_self_eq_true _
   rw [hok] at h4
   rw [e3] at h7
   rw [e1]
   simp only [dv_Piece, RN, qA, qB, qC, qD, qE, qF]
   refine call_d rfl rfl h2 ?_
   simp only [dv_Piece, b5, RN, qA, qB, qC, qD, qE, qF]
   refine call_d rfl rfl h4 ?_
   simp only [n0, RN, qA, qB, qC, qD, qE, qF]
   refine call_d rfl rfl h7 ?_
   simp only [y0, RN, qA, qB, qC, qD, qE, qF]
   refine call_d rfl rfl h8 ?_
   simp only [y0, bin_str, str_eql, yt, RN, qA, qB, qC, qD, qE, qF]
   refine call_d rfl rfl hkn ?_
   simp only [RN, qA, qB, qC, qD, qE, qF]
end Go.Tel
