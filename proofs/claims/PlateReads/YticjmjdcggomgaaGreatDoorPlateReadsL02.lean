/-
  Part 2 of the proof of a law of plates, the law itself: an abstract machine over the model, contracts of functions, plain laws.
  Conditions: none.
-/
import Derived.Test.YticjmjdcggomgaaGreatDoorPlateReadsL01
set_option linter.all false
namespace Go.Tel
end Go.Tel
open Nat renaming reduceBEq → qA, reduceAdd → qB, reduceSub → qC, reduceEqDiff → qD, reduceLT → qE, reduceLeDiff → qF
namespace Go.Tel
open Go.Am
theorem cellsEq_pt (x y : Pt) : cellsEq [1, 1] [.int .i64 x.x, .int .i64 x.y] [.int .i64 y.x, .int .i64 y.y] = some (decide (x = y)) := by
 obtain ⟨a, b⟩ := x
 obtain ⟨c, d⟩ := y
 by_cases h1 : a = c <;> by_cases h2 : b = d <;> simp [cellsEq, h1, h2]
theorem cellsEq_ms (x y : Ms) : cellsEq [1, 1] [.int .i64 x.a, .int .i64 x.b] [.int .i64 y.a, .int .i64 y.b] = some (decide (x = y)) := by
 obtain ⟨a, b⟩ := x
 obtain ⟨c, d⟩ := y
 by_cases h1 : a = c <;> by_cases h2 : b = d <;> simp [cellsEq, h1, h2]
set_option maxRecDepth 10000 in
set_option maxHeartbeats 4000000 in
theorem rPiece_c (p : Piece) (hc : p.cs.length ≤ 1000) (hw : p.ws.length ≤ 1000) (hm : p.ms.length ≤ 1000) : Pure C F.ref_Piece [p.dv] (.d (.bool p.ok)) [] := by
 refine pure_of_pwp_d mixed rfl ok_ref_Piece ?_
 simp only [pc_ref_Piece, rs_ref_Piece, dv_Piece, RN, qA, qB, qC, qD, qE, qF]
 by_cases hh : p.headOk = true
 case neg =>
  have hok : p.ok = false := by simp [Piece.ok, hh]
  rw [hok]
  repeat' first
   | (refine call_d rfl rfl (rin_c _ _ _) ?_; try simp only [RN, qA, qB, qC, qD, qE, qF])
   | (refine guard_split (by rfl) (fun hB => ?_) (fun hB => ?_) <;> simp only [hB, RN, qA, qB, qC, qD, qE, qF])
   | (refine cond_split (by rfl) (fun hB => ?_) (fun hB => ?_) <;> simp only [hB, RN, qA, qB, qC, qD, qE, qF])
  all_goals (first | rfl | (exfalso; simp_all [Piece.headOk]; done))
 have hh' := hh
 simp only [Piece.headOk, Bool.and_eq_true] at hh'
 obtain ⟨⟨⟨⟨a1, a2⟩, a3⟩, a4⟩, a5⟩ := hh'
 refine call_d rfl rfl (rin_c _ _ _) ?_
 simp only [a1, RN, qA, qB, qC, qD, qE, qF]
 refine call_d rfl rfl (rin_c _ _ _) ?_
 simp only [a2, RN, qA, qB, qC, qD, qE, qF]
 refine call_d rfl rfl (rin_c _ _ _) ?_
 simp only [a3, RN, qA, qB, qC, qD, qE, qF]
 refine call_d rfl rfl (rin_c _ _ _) ?_
 simp only [a4, RN, qA, qB, qC, qD, qE, qF]
 refine call_d rfl rfl (rin_c _ _ _) ?_
 simp only [a5, List.length_map, RN, qA, qB, qC, qD, qE, qF]
 refine call_d rfl rfl (rin_c _ _ _) ?_
 by_cases l1 : inR p.cs.length 1 6 = true
 case neg =>
  have l1' : inR p.cs.length 1 6 = false := by simpa using l1
  simp only [l1', RN, qA, qB, qC, qD, qE, qF]
  simp [Piece.ok, Piece.lensOk, l1']
 by_cases l2 : p.ws.length ≤ 8
 case neg =>
  have b2 : (p.ws.length : Int) > 8 := by omega
  simp only [l1, b2, List.length_map, RN, qA, qB, qC, qD, qE, qF]
  simp [Piece.ok, Piece.lensOk, l1, b2]
 have b2 : ¬ (p.ws.length : Int) > 8 := by omega
 by_cases l3 : p.ms.length ≤ 10
 case neg =>
  have b3 : (p.ms.length : Int) > 10 := by omega
  simp only [l1, b2, b3, List.length_map, RN, qA, qB, qC, qD, qE, qF]
  simp [Piece.ok, Piece.lensOk, l1, b2, b3]
 have b3 : ¬ (p.ms.length : Int) > 10 := by omega
 simp only [l1, b2, b3, List.length_map, RN, qA, qB, qC, qD, qE, qF]
 have hlens : p.lensOk = true := by simp [Piece.lensOk, l1, b2, b3]
 have hok : p.ok = (ptsOk p.w p.h [] p.cs && mssOk p.ws.length [] p.ms && p.ws.all (whOk p.cs.length)) := by simp [Piece.ok, hh, hlens]
 rw [hok]
 refine pwp_range p.cs.length (fun i (_ : Unit) => ⟨[(1, .d (.cptr p.cells)), (3, .d (.int .i64 i))], ⟨[some (p.cells.map .d)], [0], []⟩⟩)
  (fun i _ => ptsOk p.w p.h [] p.cs = ptsOk p.w p.h (p.cs.take i) (p.cs.drop i)) 0 () (Nat.zero_le _) rfl (by simp) (fun i _ g1 hix => ?_) (fun _ hix => ?_)
 ·obtain ⟨g2, g3, g6⟩ := rng g1 (by omega)
  rw [drop_cons g1, ptsOk, ← take_snoc g1] at hix
  simp only [Piece.cells, g2, g3, g1, getD_map, Int.toNat_natCast, List.length_map, dv_Pt, List.not_mem_nil, RN, qA, qB, qC, qD, qE, qF]
  have hci : p.cs.getD i default = p.cs.getD i default := rfl
  generalize hcg : p.cs.getD i default = c at *
  refine call_d rfl rfl (rin_c _ _ _) ?_
  by_cases x1 : inR c.x 0 p.w = true
  case neg =>
   have x1' : inR c.x 0 p.w = false := by simpa using x1
   simp only [x1', RN, qA, qB, qC, qD, qE, qF]
   simp [hix, x1']
  simp only [x1, RN, qA, qB, qC, qD, qE, qF]
  refine call_d rfl rfl (rin_c _ _ _) ?_
  by_cases x2 : inR c.y 0 p.h = true
  case neg =>
   have x2' : inR c.y 0 p.h = false := by simpa using x2
   simp only [x2', RN, qA, qB, qC, qD, qE, qF]
   simp [hix, x2']
  simp only [x2, RN, qA, qB, qC, qD, qE, qF]
  rw [x1, x2, Bool.true_and, Bool.true_and] at hix
  refine pwp_range i (fun k (_ : Unit) => ⟨[(1, .d (.cptr p.cells)), (3, .d (.int .i64 i)), (4, .d (.cptr [.int .i64 c.x, .int .i64 c.y])), (5, .d (.int .i64 k))], ⟨[some (p.cells.map .d), some [.d (.int .i64 c.x), .d (.int .i64 c.y)]], [1, 0], []⟩⟩)
   (fun k _ => c ∉ p.cs.take k) 0 () (Nat.zero_le _) rfl (by simp) (fun k _ e1 hk => ?_) (fun _ hk => ?_)
  ·obtain ⟨e2, e3, e6⟩ := rng e1 (by omega)
   have e1' : k < p.cs.length := by omega
   simp only [Piece.cells, e2, e3, e1', getD_map, Int.toNat_natCast, List.length_map, dv_Pt, RN, qA, qB, qC, qD, qE, qF]
   rw [ev_binA (cellsEq_pt _ _)]
   by_cases he : p.cs.getD k default = c
   ·rw [decide_eq_true he]
    have hx : (true != false) = true := rfl
    have hmem : c ∈ p.cs.take i := by
     rw [← he, List.getD_eq_getElem?_getD, List.getElem?_eq_getElem e1']
     exact List.mem_take_iff_getElem.2 ⟨k, by omega, rfl⟩
    simp only [hx, RN, qA, qB, qC, qD, qE, qF]
    simp [hix, hmem]
   ·rw [decide_eq_false he]
    have hx : (false != false) = false := rfl
    simp only [hx, e6, RN, qA, qB, qC, qD, qE, qF]
    exact up_same () e1 rfl (by rw [take_snoc e1']; simp only [List.mem_append, List.mem_singleton, not_or]; exact ⟨hk, fun h => he h.symm⟩) (by simp) (by simp) rfl rfl
  ·have hcn : (p.cs.take i).contains c = false := by simpa using hk
   rw [hcn, Bool.not_false, Bool.true_and] at hix
   simp only [Int.lt_irrefl, g6, RN, qA, qB, qC, qD, qE, qF]
   exact up_take 1 0 () g1 rfl hix (by simp) (by simp) rfl rfl
 ·rw [List.drop_length, ptsOk] at hix
  simp only [Piece.cells, Int.lt_irrefl, List.length_map, RN, qA, qB, qC, qD, qE, qF]
  rw [hix, Bool.true_and]
  refine pwp_range p.ws.length (fun i (_ : Unit) => ⟨[(1, .d (.cptr p.cells)), (6, .d (.int .i64 i))], ⟨[some (p.cells.map .d)], [0], []⟩⟩)
   (fun i _ => p.ws.all (whOk p.cs.length) = (p.ws.drop i).all (whOk p.cs.length)) 0 () (Nat.zero_le _) rfl (by simp) (fun i _ g1 hjx => ?_) (fun _ hjx => ?_)
  ·obtain ⟨g2, g3, g6⟩ := rng g1 (by omega)
   have wl : IntKind.i64.wrap ((p.cs.length : Int) - 1) = (p.cs.length : Int) - 1 := w64_in (by omega)
   rw [drop_cons g1, List.all_cons] at hjx
   simp only [Piece.cells, g2, g3, g1, getD_map, Int.toNat_natCast, List.length_map, dv_Wh, List.not_mem_nil, wl, RN, qA, qB, qC, qD, qE, qF]
   generalize p.ws.getD i default = w at *
   refine call_d rfl rfl (rin_c _ _ _) ?_
   by_cases x1 : inR w.centre 0 ((p.cs.length : Int) - 1) = true
   case neg =>
    have x1' := eq_false_of_ne_true x1
    simp only [x1', RN, qA, qB, qC, qD, qE, qF]
    simp [hjx, whOk, x1']
   simp only [x1, RN, qA, qB, qC, qD, qE, qF]
   refine call_d rfl rfl (rin_c _ _ _) ?_
   by_cases x2 : inR w.sleeve 0 2 = true
   case neg =>
    have x2' := eq_false_of_ne_true x2
    simp only [x2', RN, qA, qB, qC, qD, qE, qF]
    simp [hjx, whOk, x2']
   simp only [x2, RN, qA, qB, qC, qD, qE, qF]
   refine call_d rfl rfl (rin_c _ _ _) ?_
   by_cases x3 : inR w.layer 0 5 = true
   case neg =>
    have x3' := eq_false_of_ne_true x3
    simp only [x3', RN, qA, qB, qC, qD, qE, qF]
    simp [hjx, whOk, x3']
   simp only [x3, RN, qA, qB, qC, qD, qE, qF]
   refine call_d rfl rfl (rin_c _ _ _) ?_
   by_cases x4 : inR w.teeth 4 50 = true
   case neg =>
    have x4' := eq_false_of_ne_true x4
    simp only [x4', RN, qA, qB, qC, qD, qE, qF]
    simp [hjx, whOk, x4']
   simp only [x4, g6, RN, qA, qB, qC, qD, qE, qF]
   exact up_take 1 0 () g1 rfl (by rw [hjx]; simp [whOk, x1, x2, x3, x4]) (by simp) (by simp) rfl rfl
  rw [List.drop_length, List.all_nil] at hjx
  rw [hjx, Bool.and_true]
  simp only [Piece.cells, Int.lt_irrefl, List.length_map, RN, qA, qB, qC, qD, qE, qF]
  refine pwp_range p.ms.length (fun i (_ : Unit) => ⟨[(1, .d (.cptr p.cells)), (8, .d (.int .i64 i))], ⟨[some (p.cells.map .d)], [0], []⟩⟩)
   (fun i _ => mssOk p.ws.length [] p.ms = mssOk p.ws.length (p.ms.take i) (p.ms.drop i)) 0 () (Nat.zero_le _) rfl (by simp) (fun i _ g1 hkx => ?_) (fun _ hkx => ?_)
  ·obtain ⟨g2, g3, g6⟩ := rng g1 (by omega)
   have hwc : ∀ n, Pure C F.ref_Wheel [.agg p.cells, .int .i64 n] (.d (.bool (inR n 0 (p.ws.length - 1)))) [] := fun n => by
    have := rWheel_c p n (by omega)
    rw [dv_Piece] at this
    exact this
   rw [drop_cons g1, mssOk, ← take_snoc g1] at hkx
   simp only [Piece.cells, g2, g3, g1, getD_map, Int.toNat_natCast, List.length_map, dv_Ms, List.not_mem_nil, RN, qA, qB, qC, qD, qE, qF]
   generalize p.ms.getD i default = c at *
   refine call_d rfl rfl (hwc _) ?_
   by_cases x1 : inR c.a 0 ((p.ws.length : Int) - 1) = true
   case neg =>
    have x1' := eq_false_of_ne_true x1
    simp only [x1', RN, qA, qB, qC, qD, qE, qF]
    simp [hkx, x1']
   simp only [x1, RN, qA, qB, qC, qD, qE, qF]
   refine call_d rfl rfl (hwc _) ?_
   by_cases x2 : inR c.b 0 ((p.ws.length : Int) - 1) = true
   case neg =>
    have x2' := eq_false_of_ne_true x2
    simp only [x2', RN, qA, qB, qC, qD, qE, qF]
    simp [hkx, x2']
   by_cases x3 : c.a ≥ c.b
   case pos =>
    simp only [x2, x3, RN, qA, qB, qC, qD, qE, qF]
    rw [hkx, decide_eq_true x3]
    simp
   simp only [x2, x3, RN, qA, qB, qC, qD, qE, qF]
   rw [x1, x2, decide_eq_false x3, Bool.not_false, Bool.true_and, Bool.true_and, Bool.true_and] at hkx
   refine pwp_range i (fun k (_ : Unit) => ⟨[(1, .d (.cptr p.cells)), (8, .d (.int .i64 i)), (9, .d (.cptr [.int .i64 c.a, .int .i64 c.b])), (10, .d (.int .i64 k))], ⟨[some (p.cells.map .d), some [.d (.int .i64 c.a), .d (.int .i64 c.b)]], [1, 0], []⟩⟩)
    (fun k _ => c ∉ p.ms.take k) 0 () (Nat.zero_le _) rfl (by simp) (fun k _ e1 hk => ?_) (fun _ hk => ?_)
   ·obtain ⟨e2, e3, e6⟩ := rng e1 (by omega)
    have e1' : k < p.ms.length := by omega
    simp only [Piece.cells, e2, e3, e1', getD_map, Int.toNat_natCast, List.length_map, dv_Ms, RN, qA, qB, qC, qD, qE, qF]
    rw [ev_binA (cellsEq_ms _ _)]
    by_cases he : p.ms.getD k default = c
    ·rw [decide_eq_true he]
     have hx : (true != false) = true := rfl
     have hmem : c ∈ p.ms.take i := by
      rw [← he, List.getD_eq_getElem?_getD, List.getElem?_eq_getElem e1']
      exact List.mem_take_iff_getElem.2 ⟨k, by omega, rfl⟩
     simp only [hx, RN, qA, qB, qC, qD, qE, qF]
     simp [hkx, hmem]
    ·rw [decide_eq_false he]
     have hx : (false != false) = false := rfl
     simp only [hx, e6, RN, qA, qB, qC, qD, qE, qF]
     exact up_same () e1 rfl (by rw [take_snoc e1']; simp only [List.mem_append, List.mem_singleton, not_or]; exact ⟨hk, fun h => he h.symm⟩) (by simp) (by simp) rfl rfl
   ·have hcn : (p.ms.take i).contains c = false := by simpa using hk
    rw [hcn, Bool.not_false, Bool.true_and] at hkx
    simp only [Int.lt_irrefl, g6, RN, qA, qB, qC, qD, qE, qF]
    exact up_take 1 0 () g1 rfl hkx (by simp) (by simp) rfl rfl
  ·rw [List.drop_length, mssOk] at hkx
   simp only [Piece.cells, Int.lt_irrefl, List.length_map, RN, qA, qB, qC, qD, qE, qF]
   rw [hkx]
end Go.Tel
open Nat renaming reduceBEq → qA, reduceAdd → qB, reduceSub → qC, reduceEqDiff → qD, reduceLT → qE, reduceLeDiff → qF
namespace Go.Tel
open Go.Am
end Go.Tel
namespace Go.Tel
open Go.Am
end Go.Tel
open Nat renaming reduceBEq → qA, reduceAdd → qB, reduceSub → qC, reduceEqDiff → qD, reduceLT → qE, reduceLeDiff → qF
namespace Go.Tel
open Go.Am
end Go.Tel
open Nat renaming reduceBEq → qA, reduceAdd → qB, reduceSub → qC, reduceEqDiff → qD, reduceLT → qE, reduceLeDiff → qF
namespace Go.Am
theorem len_rel {sz : Nat} {c : PV} {xs : List DV} {bs : List (Option (List PV))} {fz : List Nat} {ar : List (Option Arr)} {K : Int → Prop} (h : sl sz c xs ar) : runLen c ⟨bs, fz, ar⟩ K = K xs.length := by
 rcases h with ⟨rfl, rfl⟩ | ⟨k, ver, rfl, hk⟩
 ·rfl
 ·simp [runLen, row_m, hk]
theorem sl_keep {sz : Nat} {c : PV} {xs : List DV} {ar ar' : List (Option Arr)} (h : sl sz c xs ar) (hk : ∀ k A, kOf c = some k → ar[k]? = some (some A) → ar'[k]? = some (some A)) : sl sz c xs ar' := by
 rcases h with ⟨rfl, rfl⟩ | ⟨k, ver, rfl, hh⟩
 ·exact .inl ⟨rfl, rfl⟩
 ·exact .inr ⟨k, ver, rfl, hk _ _ rfl hh⟩
end Go.Am
namespace Go.Tel
open Go.Am
def left (gone : List Int) (k : Nat) : List Nat := (List.range k).filter fun i => !gone.contains (i : Int)
structure WoS where
 ver : Nat
 c : PV
 ar : List (Option Arr)
end Go.Tel
namespace Go.Tel
open Go.Am Go.Lib
theorem bext {a b : ByteArray} (h : a.data.toList = b.data.toList) : a = b := by
 cases a with | mk x => cases b with | mk y =>
 simp only at h
 rw [Array.toList_inj.1 h]
theorem app_data (a b : ByteArray) : (a ++ b).data.toList = a.data.toList ++ b.data.toList := by
 rw [ByteArray.data_append, Array.toList_append]
def spl (c : UInt8) : List UInt8 → List (List UInt8)
 | [] => [[]]
 | b :: l => if b = c then [] :: spl c l else match spl c l with
  | x :: r => (b :: x) :: r
  | [] => [[b]]
theorem spl_hit {c : UInt8} : ∀ {x : List UInt8} {l : List UInt8}, c ∉ x → spl c (x ++ c :: l) = x :: spl c l
 | [], l, _ => by rw [List.nil_append, spl, if_pos rfl]
 | b :: x, l, h => by
  have h1 : b ≠ c := fun e => h (by rw [e]; exact List.mem_cons_self)
  rw [List.cons_append, spl, if_neg h1, spl_hit fun hh => h (List.mem_cons_of_mem _ hh)]
theorem spl_miss {c : UInt8} : ∀ {x : List UInt8}, c ∉ x → spl c x = [x]
 | [], _ => rfl
 | b :: x, h => by
  have h1 : b ≠ c := fun e => h (by rw [e]; exact List.mem_cons_self)
  rw [spl, if_neg h1, spl_miss fun hh => h (List.mem_cons_of_mem _ hh)]
theorem first_occ (c : UInt8) : ∀ l : List UInt8, c ∉ l ∨ ∃ x r, l = x ++ c :: r ∧ c ∉ x
 | [] => .inl (by simp)
 | b :: l => by
  by_cases h : b = c
  ·right; exact ⟨[], l, by rw [h]; rfl, by simp⟩
  ·rcases first_occ c l with h1 | ⟨x, r, rfl, h2⟩
   ·left; simp only [List.mem_cons, not_or]; exact ⟨fun e => h e.symm, h1⟩
   ·right; exact ⟨b :: x, r, rfl, by simp only [List.mem_cons, not_or]; exact ⟨fun e => h e.symm, h2⟩⟩
theorem ib_hit {c : UInt8} : ∀ {x r : List UInt8}, c ∉ x → indexByte (x ++ c :: r) c = x.length
 | [], r, _ => by rw [List.nil_append, indexByte, beq_self_eq_true, if_pos rfl]; rfl
 | b :: x, r, h => by
  have h1 : (b == c) = false := beq_eq_false_iff_ne.2 fun e => h (by rw [e]; exact List.mem_cons_self)
  have ih := ib_hit (r := r) fun hh => h (List.mem_cons_of_mem b hh)
  have h2 : (((x.length : Nat) : Int) == -1) = false := beq_eq_false_iff_ne.2 (by omega)
  rw [List.cons_append, indexByte, h1, ih, h2]
  simp only [Bool.false_eq_true, if_false, List.length_cons]
  omega
theorem splitK_spl (c : UInt8) : ∀ (n : Nat) (l : List UInt8), l.length ≤ n → splitK [c] 0 (l.count c) l = spl c l
 | n, l, hn => by
  rcases first_occ c l with h | ⟨x, r, rfl, h⟩
  ·rw [List.count_eq_zero.2 h, splitK, spl_miss h]
  ·have hc : (x ++ c :: r).count c = r.count c + 1 := by rw [List.count_append, List.count_eq_zero.2 h, List.count_cons_self]; omega
   have hi : index (x ++ c :: r) [c] = (x.length : Int) := by rw [index_one, ib_hit h]
   have hm : ¬ (index (x ++ c :: r) [c] == -1) = true := by rw [hi, beq_iff_eq]; omega
   rw [hc, splitK, if_neg hm, hi, spl_hit h, Int.toNat_natCast, Nat.add_zero]
   have e1 : (x ++ c :: r).take x.length = x := by rw [List.take_left]
   have e2 : (x ++ c :: r).drop (x.length + [c].length) = r := by
    rw [List.length_singleton, ← List.drop_drop, List.drop_left]; rfl
   rw [e1, e2]
   cases n with
   | zero => simp at hn
   | succ n => rw [splitK_spl c n r (by simp at hn; omega)]
theorem splitS_data (s : ByteArray) (c : UInt8) : (splitS s c).map (·.data.toList) = spl c s.data.toList := by
 rw [splitS, splitB_data]
 have h : countB s ⟨#[c]⟩ = s.data.toList.count c := count_one c _
 rw [h]
 exact splitK_spl c _ _ (Nat.le_refl _)
theorem cut_data (s : ByteArray) (c : UInt8) {x r : List UInt8} (h : s.data.toList = x ++ c :: r) (hx : c ∉ x) : (cutS s c).data.toList = x := by
 have hi : index s.data.toList [c] = (x.length : Int) := by rw [h, index_one, ib_hit hx]
 rw [cutS, cut, hi, if_pos (by omega), h]
 simp
def linesOf (c : UInt8) (xs : List (List UInt8)) : List UInt8 := (xs.map fun x => x ++ [c]).flatten
theorem spl_lines {c : UInt8} : ∀ {xs : List (List UInt8)}, (∀ x ∈ xs, c ∉ x) → spl c (linesOf c xs) = xs ++ [[]]
 | [], _ => rfl
 | x :: xs, h => by
  have e : linesOf c (x :: xs) = x ++ c :: linesOf c xs := by simp [linesOf]
  rw [e, spl_hit (h x List.mem_cons_self), spl_lines fun y hy => h y (List.mem_cons_of_mem _ hy)]; rfl
theorem join_lines (c : UInt8) : ∀ (x : List UInt8) (xs : List (List UInt8)), join (x :: xs) [c] ++ [c] = linesOf c (x :: xs)
 | x, [] => by simp [join_cons, joinTail, linesOf]
 | x, y :: xs => by
  have ih := join_lines c y xs
  rw [join_cons] at ih ⊢
  have e : linesOf c (x :: y :: xs) = x ++ (c :: linesOf c (y :: xs)) := by simp [linesOf]
  rw [e, ← ih]
  simp [joinTail]
theorem spl_words {α : Type} {c : UInt8} {f : α → List UInt8} : ∀ {ns : List α} {w : List UInt8}, c ∉ w → (∀ n ∈ ns, c ∉ f n) → spl c (w ++ (ns.map fun n => c :: f n).flatten) = w :: ns.map f
 | [], w, hw, _ => by simp [spl_miss hw]
 | n :: ns, w, hw, h => by
  have e : w ++ ((n :: ns).map fun n => c :: f n).flatten = w ++ c :: (f n ++ (ns.map fun n => c :: f n).flatten) := by simp
  rw [e, spl_hit hw, spl_words (h n List.mem_cons_self) fun m hm => h m (List.mem_cons_of_mem _ hm)]; rfl
theorem itoa_n (n : Nat) : (itoaB (n : Int)).data.toList = decDigits n := by
 rw [itoaB, itoa, if_neg (by omega), Int.toNat_natCast]
theorem dig_nat {d : Nat} (h : d < 10) : (UInt8.ofNat (48 + d)).toNat = 48 + d := by
 have : 48 + d < 256 := by omega
 simp [UInt8.toNat_ofNat]; omega
theorem dec1 {n : Nat} (h : n < 10) : decDigits n = [UInt8.ofNat (48 + n)] := by rw [decDigits, dif_pos h]
theorem dec2 {n : Nat} (h : ¬ n < 10) : decDigits n = decDigits (n / 10) ++ [UInt8.ofNat (48 + n % 10)] := by rw [decDigits, dif_neg h]
theorem dec_dig : ∀ (k n : Nat), n ≤ k → ∀ b ∈ decDigits n, 48 ≤ b.toNat ∧ b.toNat ≤ 57
 | k, n, hk, b, hb => by
  by_cases h : n < 10
  ·rw [dec1 h, List.mem_singleton] at hb
   rw [hb, dig_nat h]; omega
  ·rw [dec2 h] at hb
   rcases List.mem_append.1 hb with hb | hb
   ·cases k with
    | zero => omega
    | succ k => exact dec_dig k (n / 10) (by omega) b hb
   ·rw [List.mem_singleton.1 hb, dig_nat (Nat.mod_lt _ (by decide))]
    have : n % 10 < 10 := Nat.mod_lt _ (by decide)
    omega
theorem itoa_dig {n : Int} (h : 0 ≤ n) : ∀ b ∈ (itoaB n).data.toList, 48 ≤ b.toNat ∧ b.toNat ≤ 57 := by
 obtain ⟨m, rfl⟩ := Int.eq_ofNat_of_zero_le h
 rw [itoa_n]
 exact dec_dig m m (Nat.le_refl _)
theorem itoa_nb {n : Int} (h : 0 ≤ n) {c : UInt8} (hc : c.toNat < 48) : c ∉ (itoaB n).data.toList := fun hh => by
 have := itoa_dig h c hh
 omega
theorem dec_len {n : Nat} (h : n ≤ 999) : (decDigits n).length ≤ 3 ∧ 1 ≤ (decDigits n).length := by
 by_cases h1 : n < 10
 ·rw [dec1 h1]; simp
 ·rw [dec2 h1]
  by_cases h2 : n / 10 < 10
  ·rw [dec1 h2]; simp
  ·rw [dec2 h2, dec1 (show n / 10 / 10 < 10 by omega)]; simp
theorem getD_list (w : ByteArray) (i : Nat) : w.data.getD i 0 = w.data.toList.getD i 0 := by
 rw [Array.getD_eq_getD_getElem?, ← Array.getElem?_toList, List.getD_eq_getElem?_getD]
theorem numGo_list (w : ByteArray) (hs : w.size ≤ 3) : ∀ (l : List UInt8) (pos : Nat) (n : Int), w.data.toList.drop pos = l → (∀ b ∈ l, 48 ≤ b.toNat ∧ b.toNat ≤ 57) → numGo w l.length pos n = some (l.foldl (fun n b => 10 * n + ((b.toNat : Int) - 48)) n)
 | [], _, _, _, _ => rfl
 | b :: l, pos, n, h, hd => by
  have hp : pos < w.data.toList.length := by
   refine Nat.lt_of_not_le fun hh => ?_
   rw [List.drop_of_length_le hh] at h; cases h
  have h2 := List.drop_eq_getElem_cons hp
  rw [h] at h2
  obtain ⟨hb, ht⟩ := List.cons.inj h2
  have hg : w.data.getD pos 0 = b := by rw [getD_list, List.getD_eq_getElem?_getD, List.getElem?_eq_getElem hp, hb]; rfl
  have hdb := hd b List.mem_cons_self
  rw [List.length_cons, numGo, hg, if_pos ⟨hdb.1, hdb.2, hs⟩, numGo_list w hs l (pos + 1) _ ht.symm fun x hx => hd x (List.mem_cons_of_mem _ hx)]
  rfl
theorem number_itoa {n : Int} (h : 0 ≤ n ∧ n ≤ 999) : numberS (itoaB n) = some n := by
 obtain ⟨m, rfl⟩ := Int.eq_ofNat_of_zero_le h.1
 have hd := itoa_n m
 have hl := dec_len (n := m) (by omega)
 have hsz : (itoaB (m : Int)).size = (decDigits m).length := by rw [← size_data, hd]
 have hg := numGo_list (itoaB (m : Int)) (by omega) (decDigits m) 0 0 (by rw [List.drop_zero, hd]) (dec_dig m m (Nat.le_refl _))
 have hv : (decDigits m).foldl (fun n b => 10 * n + ((b.toNat : Int) - 48)) 0 = (m : Int) := by
  by_cases h1 : m < 10
  ·rw [dec1 h1]
   simp only [List.foldl_cons, List.foldl_nil, dig_nat h1]
   omega
  ·rw [dec2 h1]
   have d0 := dig_nat (Nat.mod_lt m (show 0 < 10 by decide))
   by_cases h2 : m / 10 < 10
   ·rw [dec1 h2]
    simp only [List.cons_append, List.nil_append, List.foldl_cons, List.foldl_nil, dig_nat h2, d0]
    omega
   ·have h3 : m / 10 / 10 < 10 := by omega
    have d1 := dig_nat (Nat.mod_lt (m / 10) (show 0 < 10 by decide))
    rw [dec2 h2, dec1 h3]
    simp only [List.cons_append, List.nil_append, List.foldl_cons, List.foldl_nil, dig_nat h3, d0, d1]
    omega
 rw [hv] at hg
 rw [numberS, hsz, hg]
 simp only
 rw [if_pos ⟨by omega, trivial⟩]
theorem addNums_data : ∀ (ns : List Int) (out : ByteArray), (addNums out ns).data.toList = out.data.toList ++ (ns.map fun n => 32 :: (itoaB n).data.toList).flatten
 | [], out => by simp [addNums]
 | n :: ns, out => by
  rw [addNums, addNums_data ns, app_data, app_data]
  simp
theorem map_data_inj {xs ys : List ByteArray} (h : xs.map (·.data.toList) = ys.map (·.data.toList)) : xs = ys := by
 induction xs generalizing ys with
 | nil => cases ys with
  | nil => rfl
  | cons y ys => cases h
 | cons x xs ih => cases ys with
  | nil => cases h
  | cons y ys =>
   simp only [List.map_cons, List.cons.injEq] at h
   rw [bext h.1, ih h.2]
theorem words_nb {k : Nat} (hk : k < 4) : (32 : UInt8) ∉ (wordsL.getD k default).data.toList ∧ (10 : UInt8) ∉ (wordsL.getD k default).data.toList := by
 obtain rfl | rfl | rfl | rfl : k = 0 ∨ k = 1 ∨ k = 2 ∨ k = 3 := by omega
 all_goals exact ⟨by decide, by decide⟩
theorem split_row {k : Nat} (hk : k < 4) {ns : List Int} (h : ∀ n ∈ ns, 0 ≤ n) : splitS (addNums (wordsL.getD k default) ns) 32 = wordsL.getD k default :: ns.map itoaB := by
 refine map_data_inj ?_
 rw [splitS_data, addNums_data, spl_words (words_nb hk).1 fun n hn => itoa_nb (h n hn) (by decide)]
 simp
theorem mapNum_itoa : ∀ (ns acc : List Int), (∀ n ∈ ns, 0 ≤ n ∧ n ≤ 999) → mapNum (ns.map itoaB) acc = some (acc ++ ns)
 | [], acc, _ => by simp [mapNum]
 | n :: ns, acc, h => by
  rw [List.map_cons, mapNum, number_itoa (h n List.mem_cons_self)]
  simp only
  rw [mapNum_itoa ns _ fun m hm => h m (List.mem_cons_of_mem _ hm), List.append_assoc]; rfl
theorem told_row {k : Nat} (hk : k < 4) {ns : List Int} (h : ∀ n ∈ ns, 0 ≤ n ∧ n ≤ 999) : toldS (addNums (wordsL.getD k default) ns) k ns.length = some ns := by
 rw [toldS, split_row hk fun n hn => (h n hn).1, if_pos ⟨by simp, rfl⟩]
 have := mapNum_itoa ns [] h
 simpa using this
theorem cut_row {k : Nat} (hk : k < 4) {n : Int} {ns : List Int} : (cutS (addNums (wordsL.getD k default) (n :: ns)) 32).data.toList = (wordsL.getD k default).data.toList := by
 refine cut_data _ _ (r := (itoaB n).data.toList ++ (ns.map fun n => 32 :: (itoaB n).data.toList).flatten) ?_ (words_nb hk).1
 rw [addNums_data]; simp
theorem row_nl {k : Nat} (hk : k < 4) {ns : List Int} (h : ∀ n ∈ ns, 0 ≤ n) : (10 : UInt8) ∉ (addNums (wordsL.getD k default) ns).data.toList := by
 rw [addNums_data]
 intro hh
 rcases List.mem_append.1 hh with hh | hh
 ·exact (words_nb hk).2 hh
 ·obtain ⟨l, hl, hx⟩ := List.mem_flatten.1 hh
  obtain ⟨n, hn, rfl⟩ := List.mem_map.1 hl
  rcases List.mem_cons.1 hx with hx | hx
  ·cases hx
  ·exact itoa_nb (h n hn) (by decide) hx
structure Piece.three (p : Piece) : Prop where
 nums : ∀ n ∈ p.nums, 0 ≤ n ∧ n ≤ 999
 cs : ∀ c ∈ p.cs, ∀ n ∈ c.nums, 0 ≤ n ∧ n ≤ 999
 ws : ∀ c ∈ p.ws, ∀ n ∈ c.nums, 0 ≤ n ∧ n ≤ 999
 ms : ∀ c ∈ p.ms, ∀ n ∈ c.nums, 0 ≤ n ∧ n ≤ 999
theorem lines_app : ∀ (l r : List ByteArray) (p : Piece), linesS (l ++ r) p = (linesS l p).bind (linesS r)
 | [], r, p => rfl
 | x :: l, r, p => by
  rw [List.cons_append, linesS, linesS]
  cases lineS p x with
  | none => rfl
  | some q => exact lines_app l r q
theorem line_c {p : Piece} {c : Pt} (h : ∀ n ∈ c.nums, 0 ≤ n ∧ n ≤ 999) : lineS p (csRow c) = some { p with cs := p.cs ++ [c] } := by
 have ht := told_row (k := 1) (by decide) h
 have hc : (cutS (csRow c) 32).data.toList = (wordsL.getD 1 default).data.toList := cut_row (by decide)
 rw [lineS, if_pos hc]
 have : toldS (csRow c) 1 2 = some c.nums := ht
 rw [this]; rfl
theorem line_w {p : Piece} {c : Wh} (h : ∀ n ∈ c.nums, 0 ≤ n ∧ n ≤ 999) : lineS p (wsRow c) = some { p with ws := p.ws ++ [c] } := by
 have ht := told_row (k := 2) (by decide) h
 have hc : (cutS (wsRow c) 32).data.toList = (wordsL.getD 2 default).data.toList := cut_row (by decide)
 rw [lineS, hc, if_neg (by decide), if_pos rfl]
 have : toldS (wsRow c) 2 4 = some c.nums := ht
 rw [this]; rfl
theorem line_m {p : Piece} {c : Ms} (h : ∀ n ∈ c.nums, 0 ≤ n ∧ n ≤ 999) : lineS p (msRow c) = some { p with ms := p.ms ++ [c] } := by
 have ht := told_row (k := 3) (by decide) h
 have hc : (cutS (msRow c) 32).data.toList = (wordsL.getD 3 default).data.toList := cut_row (by decide)
 rw [lineS, hc, if_neg (by decide), if_neg (by decide)]
 have : toldS (msRow c) 3 2 = some c.nums := ht
 rw [this]; rfl
theorem lines_c : ∀ (l : List Pt) (p : Piece), (∀ c ∈ l, ∀ n ∈ c.nums, 0 ≤ n ∧ n ≤ 999) → linesS (l.map csRow) p = some { p with cs := p.cs ++ l }
 | [], p, _ => by simp [linesS]
 | c :: l, p, h => by
  rw [List.map_cons, linesS, line_c (h c List.mem_cons_self)]
  simp only
  rw [lines_c l _ fun x hx => h x (List.mem_cons_of_mem _ hx)]
  simp
theorem lines_w : ∀ (l : List Wh) (p : Piece), (∀ c ∈ l, ∀ n ∈ c.nums, 0 ≤ n ∧ n ≤ 999) → linesS (l.map wsRow) p = some { p with ws := p.ws ++ l }
 | [], p, _ => by simp [linesS]
 | c :: l, p, h => by
  rw [List.map_cons, linesS, line_w (h c List.mem_cons_self)]
  simp only
  rw [lines_w l _ fun x hx => h x (List.mem_cons_of_mem _ hx)]
  simp
theorem lines_m : ∀ (l : List Ms) (p : Piece), (∀ c ∈ l, ∀ n ∈ c.nums, 0 ≤ n ∧ n ≤ 999) → linesS (l.map msRow) p = some { p with ms := p.ms ++ l }
 | [], p, _ => by simp [linesS]
 | c :: l, p, h => by
  rw [List.map_cons, linesS, line_m (h c List.mem_cons_self)]
  simp only
  rw [lines_m l _ fun x hx => h x (List.mem_cons_of_mem _ hx)]
  simp
theorem chkK_ge (r : ByteArray) (i : Nat) : ∀ (k : Nat) (c : Int), 0 ≤ c → 0 ≤ chkK r i k c
 | 0, c, h => h
 | k + 1, c, h => by
  rw [chkK]
  have h1 := chkK_ge r i k c h
  have h2 : (0 : Int) ≤ ((r.data.getD k 0).toNat : Int) * ((k : Int) + 1) * ((i : Int) + 1) := Int.mul_nonneg (Int.mul_nonneg (by omega) (by omega)) (by omega)
  omega
theorem chkRows_ge : ∀ (l : List ByteArray) (i : Nat) (c : Int), 0 ≤ c → 0 ≤ chkRows l i c
 | [], _, _, h => h
 | r :: l, i, c, h => by rw [chkRows]; exact chkRows_ge l (i + 1) _ (chkK_ge r i _ c h)
theorem chk_bd (l : List ByteArray) : 0 ≤ (chkRows l 0 0).tmod 127 ∧ (chkRows l 0 0).tmod 127 < 127 := ⟨Int.tmod_nonneg _ (chkRows_ge l 0 0 (Int.le_refl _)), Int.tmod_lt_of_pos _ (by decide)⟩
theorem end_parts {c : Int} (h : 0 ≤ c ∧ c < 127) : (0 ≤ c.tdiv 100 ∧ c.tdiv 100 ≤ 9) ∧ (0 ≤ (c.tdiv 10).tmod 10 ∧ (c.tdiv 10).tmod 10 ≤ 9) ∧ (0 ≤ c.tmod 10 ∧ c.tmod 10 ≤ 9) := by
 obtain ⟨m, rfl⟩ := Int.eq_ofNat_of_zero_le h.1
 have e1 : ((m : Nat) : Int).tdiv 100 = ((m / 100 : Nat) : Int) := (Int.ofNat_tdiv m 100).symm
 have e2 : ((m : Nat) : Int).tdiv 10 = ((m / 10 : Nat) : Int) := (Int.ofNat_tdiv m 10).symm
 have e3 : ((m / 10 : Nat) : Int).tmod 10 = ((m / 10 % 10 : Nat) : Int) := (Int.ofNat_tmod _ 10).symm
 have e4 : ((m : Nat) : Int).tmod 10 = ((m % 10 : Nat) : Int) := (Int.ofNat_tmod m 10).symm
 rw [e2, e1, e3, e4]
 omega
theorem end_nl {c : Int} (h : 0 ≤ c ∧ c < 127) : (10 : UInt8) ∉ (endRow c).data.toList := by
 obtain ⟨h1, h2, h3⟩ := end_parts h
 rw [endRow, app_data, app_data, app_data]
 intro hh
 rcases List.mem_append.1 hh with hh | hh
 ·rcases List.mem_append.1 hh with hh | hh
  ·rcases List.mem_append.1 hh with hh | hh
   ·revert hh; decide
   ·exact itoa_nb h1.1 (by decide) hh
  ·exact itoa_nb h2.1 (by decide) hh
 ·exact itoa_nb h3.1 (by decide) hh
theorem rows_nl {p : Piece} (h : p.three) : ∀ r ∈ p.rows, (10 : UInt8) ∉ r.data.toList := by
 intro r hr
 simp only [Piece.rows, List.mem_cons, List.mem_append, List.mem_map] at hr
 rcases hr with rfl | (⟨c, hc, rfl⟩ | ⟨c, hc, rfl⟩) | ⟨c, hc, rfl⟩
 ·exact row_nl (by decide) fun n hn => (h.nums n hn).1
 ·exact row_nl (by decide) fun n hn => (h.cs c hc n hn).1
 ·exact row_nl (by decide) fun n hn => (h.ws c hc n hn).1
 ·exact row_nl (by decide) fun n hn => (h.ms c hc n hn).1
theorem text_data (p : Piece) : p.text.data.toList = linesOf 10 ((p.rows ++ [endRow ((chkRows p.rows 0 0).tmod 127)]).map (·.data.toList)) := by
 rw [Piece.text, app_data, joinS]
 have hr : p.rows = addNums (wordsL.getD 0 default) p.nums :: (p.cs.map csRow ++ p.ws.map wsRow ++ p.ms.map msRow) := rfl
 generalize endRow ((chkRows p.rows 0 0).tmod 127) = e
 rw [hr, List.cons_append, List.map_cons, ← join_lines]
theorem split_text {p : Piece} (h : p.three) : splitS p.text 10 = p.rows ++ [endRow ((chkRows p.rows 0 0).tmod 127), ⟨#[]⟩] := by
 refine map_data_inj ?_
 rw [splitS_data, text_data, spl_lines]
 ·simp
 ·intro x hx
  obtain ⟨r, hr, rfl⟩ := List.mem_map.1 hx
  rcases List.mem_append.1 hr with hr | hr
  ·exact rows_nl h r hr
  ·rw [List.mem_singleton.1 hr]; exact end_nl (chk_bd _)
theorem parsed_text {p : Piece} (h : p.three) : parsedS p.text = some p := by
 have hsp := split_text h
 have hr : p.rows = addNums (wordsL.getD 0 default) p.nums :: (p.cs.map csRow ++ p.ws.map wsRow ++ p.ms.map msRow) := rfl
 have hlen : (splitS p.text 10).length = p.rows.length + 2 := by rw [hsp, List.length_append]; rfl
 have h1 : 1 ≤ p.rows.length := by rw [hr, List.length_cons]; omega
 have h0 : (splitS p.text 10).getD 0 default = addNums (wordsL.getD 0 default) p.nums := by rw [hsp, hr]; rfl
 have ht : ((splitS p.text 10).take ((splitS p.text 10).length - 2)).drop 1 = p.cs.map csRow ++ p.ws.map wsRow ++ p.ms.map msRow := by
  rw [hlen, Nat.add_sub_cancel, hsp, List.take_left, hr]; rfl
 have htold : toldS (addNums (wordsL.getD 0 default) p.nums) 0 5 = some p.nums := told_row (k := 0) (by decide) h.nums
 rw [parsedS, if_pos (by rw [hlen]; omega), h0, htold, ht]
 simp only
 rw [lines_app, lines_app, lines_c _ _ h.cs]
 simp only [Option.bind_some]
 rw [lines_w _ _ h.ws]
 simp only [Option.bind_some]
 rw [lines_m _ _ h.ms]
 simp only [List.nil_append]
 have hp : (⟨p.nums.getD 0 default, p.nums.getD 1 default, p.nums.getD 2 default, p.nums.getD 3 default, p.nums.getD 4 default, p.cs, p.ws, p.ms⟩ : Piece) = p := rfl
 rw [hp, if_pos rfl]
end Go.Tel
namespace Go.Tel
open Go.Am Go.Lib
theorem ok_three {p : Piece} (h : p.ok = true) : p.three := by
 have hm := Piece.ok_ms h
 have hl := Piece.ok_lens h
 simp only [Piece.ok, Piece.headOk, inR, Bool.and_eq_true, decide_eq_true_eq, ge_iff_le] at h
 obtain ⟨⟨⟨⟨k1, k2⟩, k3⟩, k4⟩, k5⟩ := h
 constructor
 ·intro n hn
  simp only [Piece.nums, List.mem_cons, List.not_mem_nil, or_false] at hn
  rcases hn with rfl | rfl | rfl | rfl | rfl <;> omega
 ·intro c hc n hn
  have := ptsOk_mem k3 c hc
  simp only [Pt.nums, List.mem_cons, List.not_mem_nil, or_false] at hn
  rcases hn with rfl | rfl <;> omega
 ·intro c hc n hn
  have := List.all_eq_true.1 k5 c hc
  simp only [whOk, inR, Bool.and_eq_true, decide_eq_true_eq, ge_iff_le] at this
  simp only [Wh.nums, List.mem_cons, List.not_mem_nil, or_false] at hn
  rcases hn with rfl | rfl | rfl | rfl <;> omega
 ·intro c hc n hn
  obtain ⟨⟨a1, a2⟩, b1, b2⟩ := hm c hc
  simp only [Ms.nums, List.mem_cons, List.not_mem_nil, or_false] at hn
  rcases hn with rfl | rfl <;> omega
theorem three_small {p : Piece} (h : p.three) (lc : p.cs.length ≤ 1000) (lw : p.ws.length ≤ 1000) (lm : p.ms.length ≤ 1000) : p.small := by
 have big : ∀ n : Int, 0 ≤ n ∧ n ≤ 999 → -1000000 ≤ n ∧ n ≤ 1000000 := by intro n hn; omega
 exact ⟨big _ (h.nums _ (by simp [Piece.nums])), big _ (h.nums _ (by simp [Piece.nums])), big _ (h.nums _ (by simp [Piece.nums])), big _ (h.nums _ (by simp [Piece.nums])), big _ (h.nums _ (by simp [Piece.nums])),
  fun c hc n hn => big n (h.cs c hc n hn), fun c hc n hn => big n (h.ws c hc n hn), fun c hc n hn => big n (h.ms c hc n hn), lc, lw, lm⟩
theorem three_tiny {p : Piece} (h : p.three) (lc : p.cs.length ≤ 700) (lw : p.ws.length ≤ 700) (lm : p.ms.length ≤ 700) : p.tiny := by
 have big : ∀ n : Int, 0 ≤ n ∧ n ≤ 999 → 0 ≤ n ∧ n ≤ 1000 := by intro n hn; omega
 exact ⟨fun n hn => big n (h.nums n hn), fun c hc n hn => big n (h.cs c hc n hn), fun c hc n hn => big n (h.ws c hc n hn), fun c hc n hn => big n (h.ms c hc n hn), lc, lw, lm⟩
theorem linesOf_app (c : UInt8) (xs ys : List (List UInt8)) : linesOf c (xs ++ ys) = linesOf c xs ++ linesOf c ys := by simp [linesOf]
theorem decGo_eq : ∀ (k n : Nat) (s : ByteArray), n ≤ k → (decGo k n s).data.toList = (if 10 ≤ n then decDigits (n / 10) else []) ++ s.data.toList
 | 0, n, s, h => by rw [decGo, if_neg (by omega), List.nil_append]
 | k + 1, n, s, h => by
  rw [decGo]
  by_cases h1 : 10 ≤ n
  ·have hd : (digB (n / 10 % 10)).data.toList = [UInt8.ofNat (48 + n / 10 % 10)] := rfl
   rw [if_pos h1, if_pos h1, decGo_eq k (n / 10) _ (by omega), app_data, hd]
   by_cases h2 : 10 ≤ n / 10
   ·rw [if_pos h2, dec2 (show ¬ n / 10 < 10 by omega)]; simp
   ·rw [if_neg h2, dec1 (show n / 10 < 10 by omega), Nat.mod_eq_of_lt (show n / 10 < 10 by omega)]; simp
  ·rw [if_neg h1, if_neg h1, List.nil_append]
theorem decS_eq (n : Nat) : decS n = itoaB n := by
 refine bext ?_
 rw [itoa_n, decS, decGo_eq n n _ (Nat.le_refl _)]
 have hd : (digB (n % 10)).data.toList = [UInt8.ofNat (48 + n % 10)] := rfl
 rw [hd]
 by_cases h : 10 ≤ n
 ·rw [if_pos h, dec2 (show ¬ n < 10 by omega)]
 ·rw [if_neg h, dec1 (show n < 10 by omega), Nat.mod_eq_of_lt (show n < 10 by omega)]; rfl
theorem addWords_eq : ∀ (ns : List Int) (out : ByteArray), (∀ n ∈ ns, 0 ≤ n) → (addWords out ns).data.toList = out.data.toList ++ (ns.map fun n => 32 :: (itoaB n).data.toList).flatten
 | [], out, _ => by simp [addWords]
 | n :: ns, out, h => by
  have h0 := h n List.mem_cons_self
  have e : ((n.toNat : Nat) : Int) = n := by omega
  rw [addWords, addWords_eq ns _ fun m hm => h m (List.mem_cons_of_mem _ hm), decS_eq, e, app_data, app_data]
  simp
theorem row_eq {w : ByteArray} {ns : List Int} (h : ∀ n ∈ ns, 0 ≤ n) : w ++ addWords ⟨#[]⟩ ns = addNums w ns := by
 refine bext ?_
 rw [app_data, addWords_eq ns _ h, addNums_data]; simp
theorem rrows_eq {p : Piece} (h : p.three) : p.rrows = p.rows := by
 have e0 : rRow0 p = addNums (wordsL.getD 0 default) p.nums := row_eq fun n hn => (h.nums n hn).1
 have e1 : p.cs.map rRowC = p.cs.map csRow := List.map_congr_left fun c hc => row_eq fun n hn => (h.cs c hc n hn).1
 have e2 : p.ws.map rRowW = p.ws.map wsRow := List.map_congr_left fun c hc => row_eq fun n hn => (h.ws c hc n hn).1
 have e3 : p.ms.map rRowM = p.ms.map msRow := List.map_congr_left fun c hc => row_eq fun n hn => (h.ms c hc n hn).1
 rw [Piece.rrows, Piece.rows, e0, e1, e2, e3]
theorem rText_eq : ∀ (l : List ByteArray) (t : ByteArray), (rText l t).data.toList = t.data.toList ++ linesOf 10 (l.map (·.data.toList))
 | [], t => by simp [rText, linesOf]
 | r :: l, t => by
  rw [rText, rText_eq l, app_data, app_data]
  simp [linesOf]
theorem print_eq {p : Piece} (h : p.three) : p.print = p.text := by
 refine bext ?_
 obtain ⟨b1, b2⟩ := chk_bd p.rows
 rw [Piece.print, rrows_eq h, text_data]
 generalize (chkRows p.rows 0 0).tmod 127 = c at *
 obtain ⟨m, rfl⟩ := Int.eq_ofNat_of_zero_le b1
 have t1 : ((m : Nat) : Int).tdiv 100 = ((m / 100 : Nat) : Int) := (Int.ofNat_tdiv m 100).symm
 have t2 : ((m : Nat) : Int).tdiv 10 = ((m / 10 : Nat) : Int) := (Int.ofNat_tdiv m 10).symm
 have t3 : ((m / 10 : Nat) : Int).tmod 10 = ((m / 10 % 10 : Nat) : Int) := (Int.ofNat_tmod _ 10).symm
 have t4 : ((m : Nat) : Int).tmod 10 = ((m % 10 : Nat) : Int) := (Int.ofNat_tmod m 10).symm
 rw [rPrint, Int.toNat_natCast, decS_eq, decS_eq, decS_eq, List.map_append, linesOf_app, endRow, t2, t1, t3, t4]
 simp only [app_data, rText_eq]
 simp [linesOf, app_data]
end Go.Tel
open Nat renaming reduceBEq → qA, reduceAdd → qB, reduceSub → qC, reduceEqDiff → qD, reduceLT → qE, reduceLeDiff → qF
namespace Go.Tel
open Go.Am
def Piece.printS (p : Piece) : ByteArray × Int := if p.ok then (p.text, 0) else (⟨#[]⟩, 2)
set_option maxRecDepth 10000 in
theorem PrintP_c (p : Piece) (hc : p.cs.length ≤ 1000) (hw : p.ws.length ≤ 1000) (hm : p.ms.length ≤ 1000) : Pure C F.plate_Print [p.dv] (.d (.tup [.str p.printS.1, .int .i64 p.printS.2])) [] := by
 have h1 := isPiece_c p hc hw hm
 have h2 := fun h => text_c p (three_small (ok_three h) hc hw hm)
 rw [dv_Piece] at h1
 simp only [dv_Piece] at h2
 refine pure_of_pwp_d mixed rfl ok_plate_Print ?_
 simp only [pc_plate_Print, rs_plate_Print, dv_Piece, List.not_mem_nil, RN, qA, qB, qC, qD, qE, qF]
 refine call_d rfl rfl h1 ?_
 cases hok : p.ok
 ·simp only [RN, qA, qB, qC, qD, qE, qF]
  rw [Piece.printS, hok]; rfl
 ·simp only [RN, qA, qB, qC, qD, qE, qF]
  refine call_d rfl rfl (h2 hok) ?_
  simp only [RN, qA, qB, qC, qD, qE, qF]
  rw [Piece.printS, hok]; rfl
theorem bne_self_i {a : Int} : (a != a) = false := bne_self_eq_false a
theorem cellsEq_self2 {a b : Int} : cellsEq [1, 1] [.int .i64 a, .int .i64 b] [.int .i64 a, .int .i64 b] = some true := by simp [cellsEq]
theorem cellsEq_self4 {a b c d : Int} : cellsEq [1, 1, 1, 1] [.int .i64 a, .int .i64 b, .int .i64 c, .int .i64 d] [.int .i64 a, .int .i64 b, .int .i64 c, .int .i64 d] = some true := by simp [cellsEq]
set_option maxRecDepth 10000 in
set_option maxHeartbeats 2000000 in
theorem SamePieces_c (p : Piece) (hc : p.cs.length ≤ 1000) (hw : p.ws.length ≤ 1000) (hm : p.ms.length ≤ 1000) : Pure C F.ref_SamePieces [p.dv, p.dv] (.d (.bool true)) [] := by
 have tt : (true != true) = false := rfl
 refine pure_of_pwp_d mixed rfl ok_ref_SamePieces ?_
 simp only [pc_ref_SamePieces, rs_ref_SamePieces, dv_Piece, List.not_mem_nil, bne_self_i, RN, qA, qB, qC, qD, qE, qF]
 refine pwp_range p.cs.length (fun i (_ : Unit) => ⟨[(2, .d (.cptr p.cells)), (3, .d (.cptr p.cells)), (5, .d (.int .i64 i))], ⟨[some (p.cells.map .d), some (p.cells.map .d)], [1, 0], []⟩⟩)
  (fun _ _ => True) 0 () (Nat.zero_le _) rfl trivial (fun i _ g1 _ => ?_) (fun _ _ => ?_)
 ·obtain ⟨g2, g3, g6⟩ := rng g1 (by omega)
  simp only [Piece.cells, g2, g3, g1, getD_map, Int.toNat_natCast, List.length_map, dv_Pt, List.not_mem_nil, RN, qA, qB, qC, qD, qE, qF]
  rw [ev_binA cellsEq_self2]
  simp only [tt, g6, RN, qA, qB, qC, qD, qE, qF]
  exact up_same () g1 rfl trivial (by simp) (by simp) rfl rfl
 simp only [Piece.cells, Int.lt_irrefl, List.length_map, RN, qA, qB, qC, qD, qE, qF]
 refine pwp_range p.ws.length (fun i (_ : Unit) => ⟨[(2, .d (.cptr p.cells)), (3, .d (.cptr p.cells)), (6, .d (.int .i64 i))], ⟨[some (p.cells.map .d), some (p.cells.map .d)], [1, 0], []⟩⟩)
  (fun _ _ => True) 0 () (Nat.zero_le _) rfl trivial (fun i _ g1 _ => ?_) (fun _ _ => ?_)
 ·obtain ⟨g2, g3, g6⟩ := rng g1 (by omega)
  simp only [Piece.cells, g2, g3, g1, getD_map, Int.toNat_natCast, List.length_map, dv_Wh, List.not_mem_nil, RN, qA, qB, qC, qD, qE, qF]
  rw [ev_binA cellsEq_self4]
  simp only [tt, g6, RN, qA, qB, qC, qD, qE, qF]
  exact up_same () g1 rfl trivial (by simp) (by simp) rfl rfl
 simp only [Piece.cells, Int.lt_irrefl, List.length_map, RN, qA, qB, qC, qD, qE, qF]
 refine pwp_range p.ms.length (fun i (_ : Unit) => ⟨[(2, .d (.cptr p.cells)), (3, .d (.cptr p.cells)), (7, .d (.int .i64 i))], ⟨[some (p.cells.map .d), some (p.cells.map .d)], [1, 0], []⟩⟩)
  (fun _ _ => True) 0 () (Nat.zero_le _) rfl trivial (fun i _ g1 _ => ?_) (fun _ _ => ?_)
 ·obtain ⟨g2, g3, g6⟩ := rng g1 (by omega)
  simp only [Piece.cells, g2, g3, g1, getD_map, Int.toNat_natCast, List.length_map, dv_Ms, List.not_mem_nil, RN, qA, qB, qC, qD, qE, qF]
  rw [ev_binA cellsEq_self2]
  simp only [tt, g6, RN, qA, qB, qC, qD, qE, qF]
  exact up_same () g1 rfl trivial (by simp) (by simp) rfl rfl
 simp only [Piece.cells, Int.lt_irrefl, List.length_map, RN, qA, qB, qC, qD, qE, qF]
end Go.Tel
open Nat renaming reduceBEq → qA, reduceAdd → qB, reduceSub → qC, reduceEqDiff → qD, reduceLT → qE, reduceLeDiff → qF
namespace Go.Am
theorem ev_slcS_both {C : Ctx} {base : Nat} {M : Mem} {K : PV → Mem → Prop} {KP : DV → Mem → Prop} {s : ByteArray} {k k' : IntKind} {m n : Int} (h0 : 0 ≤ m) (h1 : m ≤ n) (h2 : n ≤ s.size) : runOp C base (.slcS true true) [.d (.str s), .d (.int k m), .d (.int k' n)] M K KP = K (.d (.str (s.extract m.toNat n.toNat))) M := by
 simp only [runOp, runSlcS, optInt, Option.getD_some]
 exact propext ⟨fun h => h.2.2.2.2.2, fun h => ⟨trivial, trivial, h0, h1, h2, h⟩⟩
end Go.Am
namespace Go.Tel
open Go.Am Go.Lib
theorem ext_data (s : ByteArray) (a b : Nat) : (s.extract a b).data.toList = (s.data.toList.take b).drop a := by
 rw [ByteArray.data_extract, Array.toList_extract, List.extract_eq_take_drop, List.drop_take]
theorem drop_at {l : List UInt8} {f i : Nat} (h1 : f ≤ i) (h2 : i < l.length) : l.drop f = (l.take i).drop f ++ l.getD i 0 :: l.drop (i + 1) := by
 have e : l.drop f = (l.take i ++ l.drop i).drop f := by rw [List.take_append_drop]
 have hg : l.getD i 0 = l[i] := by rw [List.getD_eq_getElem?_getD, List.getElem?_eq_getElem h2]; rfl
 rw [e, List.drop_append_of_le_length (by rw [List.length_take]; omega), List.drop_eq_getElem_cons h2, hg]
theorem take_drop_succ {l : List UInt8} {f i : Nat} (h1 : f ≤ i) (h2 : i < l.length) : (l.take (i + 1)).drop f = (l.take i).drop f ++ [l.getD i 0] := by
 have hg : l.getD i 0 = l[i] := by rw [List.getD_eq_getElem?_getD, List.getElem?_eq_getElem h2]; rfl
 rw [List.take_succ_eq_append_getElem h2, List.drop_append_of_le_length (by rw [List.length_take]; omega), hg]
theorem u8_eq {a b : UInt8} (h : ((a.toNat : Nat) : Int) = ((b.toNat : Nat) : Int)) : a = b := UInt8.toNat_inj.1 (by omega)
set_option maxRecDepth 10000 in
set_option maxHeartbeats 2000000 in
theorem rsplit_c (s : ByteArray) (c : UInt8) (hs : s.size ≤ 1000000) : Pure C F.ref_split [.str s, .int .u8 c.toNat] (.d (.slice false ((splitS s c).map .str))) [] := by
 have hl : s.data.toList.length = s.size := size_data s
 refine pure_of_pwp_w mixed rfl ok_ref_split ?_
 simp only [pc_ref_split, rs_ref_split, List.not_mem_nil, RN, qA, qB, qC, qD, qE, qF]
 refine pwp_range s.size (fun i (q : List ByteArray × Nat × Nat) => ⟨[(0, .d (.str s)), (1, .d (.int .u8 c.toNat)), (5, .tsl 1 q.2.2 0), (6, .d (.int .i64 q.2.1)), (7, .d (.int .i64 i))], ⟨[], [], [some ⟨1, [], 0, 0⟩, some ⟨1, q.1.map .str, q.2.2, 0⟩]⟩⟩)
  (fun i q => (q.1.map (·.data.toList)) ++ spl c (s.data.toList.drop q.2.1) = spl c s.data.toList ∧ c ∉ (s.data.toList.take i).drop q.2.1 ∧ q.2.1 ≤ i ∧ q.1.length ≤ i) 0 ([], 0, 0) (Nat.zero_le _) rfl ⟨rfl, by simp, Nat.le_refl _, Nat.le_refl _⟩ (fun i q g1 hix => ?_) (fun q hix => ?_)
 ·obtain ⟨out, f, ver⟩ := q
  obtain ⟨r1, r2, r3, r4⟩ := hix
  simp only at r1 r2 r3 r4
  obtain ⟨g2, g3, g6⟩ := rng g1 (by omega)
  have hda := drop_at r3 (show i < s.data.toList.length by omega)
  have hts := take_drop_succ r3 (show i < s.data.toList.length by omega)
  have hgd := getD_list s i
  by_cases hb : s.data.getD i 0 = c
  ·have e1 : (((s.data.getD i 0).toNat : Int) == (c.toNat : Int)) = true := by rw [hb]; exact beq_self_eq_true _
   have x1 : (0 : Int) ≤ f := by omega
   have x2 : (f : Int) ≤ i := by omega
   have x3 : (i : Int) ≤ s.size := by omega
   simp only [g2, g3, g1, Int.toNat_natCast, e1, ev_slcS_both x1 x2 x3, ev_mkSl1, DV.strip, dcells_str, fits_str, forall_eq, List.length_map, g6, RN, qA, qB, qC, qD, qE, qF]
   refine ⟨by simp, by omega, ?_⟩
   refine up_same (out ++ [s.extract f i], i + 1, ver + 1) g1 ?_ ⟨?_, ?_, by simp, by simp; omega⟩ (by simp) (by simp) rfl rfl
   ·simp only [List.map_append, List.map_cons, List.map_nil]; rfl
   ·simp only [List.map_append, List.map_cons, List.map_nil, ext_data]
    rw [← hgd, hb] at hda
    rw [hda, spl_hit r2] at r1
    simpa using r1
   ·simp only
    rw [List.drop_of_length_le (by rw [List.length_take]; omega)]
    simp
  ·have e1 : (((s.data.getD i 0).toNat : Int) == (c.toNat : Int)) = false := beq_eq_false_iff_ne.2 fun h => hb (u8_eq h)
   simp only [g2, g3, g1, Int.toNat_natCast, e1, g6, RN, qA, qB, qC, qD, qE, qF]
   refine up_same (out, f, ver) g1 rfl ⟨r1, ?_, by simp only; omega, by simp only; omega⟩ (by simp) (by simp) rfl rfl
   simp only
   rw [hts, ← hgd]
   intro hh
   rcases List.mem_append.1 hh with hh | hh
   ·exact r2 hh
   ·exact hb (List.mem_singleton.1 hh).symm
 ·obtain ⟨out, f, ver⟩ := q
  obtain ⟨r1, r2, r3, r4⟩ := hix
  simp only at r1 r2 r3 r4
  have x1 : (0 : Int) ≤ f := by omega
  have x2 : (f : Int) ≤ s.size := by omega
  have hend : splitS s c = out ++ [s.extract f s.size] := by
   refine map_data_inj ?_
   rw [List.take_of_length_le (by omega)] at r2
   rw [spl_miss r2] at r1
   rw [splitS_data, ← r1, List.map_append, List.map_cons, List.map_nil, ext_data, List.take_of_length_le (by omega)]
  simp only [Int.lt_irrefl, ev_slcS_lo x1 x2, Int.toNat_natCast, ev_mkSl1, DV.strip, dcells_str, fits_str, forall_eq, List.length_map, RN, qA, qB, qC, qD, qE, qF]
  refine ⟨by simp, by omega, ?_⟩
  exact ⟨_, datum_tsl (k := 1) rfl rfl, fun w X v h => by rw [hend, List.map_append]; exact h⟩
def rnum (w : ByteArray) : Int := (numberS w).getD (-1)
set_option maxRecDepth 10000 in
set_option maxHeartbeats 2000000 in
theorem rnumber_c (w : ByteArray) (hw : w.size ≤ 1000000) : Pure C F.ref_number [.str w] (.d (.int .i64 (rnum w))) [] := by
 refine pure_of_pwp_d mixed rfl ok_ref_number ?_
 have hnum : numberS w = match numGo w w.size 0 0 with | some n => if w.size ≠ 0 ∧ (itoaB n).data.toList = w.data.toList then some n else none | none => none := rfl
 by_cases hz : w.size = 0
 ·have e0 : ((w.size : Int) == 0) = true := beq_iff_eq.2 (by omega)
  have hr : rnum w = -1 := by
   rw [rnum, hnum]
   cases numGo w w.size 0 0 with
   | none => rfl
   | some n => simp only; rw [if_neg (fun h => h.1 hz)]; rfl
  rw [hr]
  simp only [pc_ref_number, rs_ref_number, e0, RN, qA, qB, qC, qD, qE, qF]
 have e0 : ((w.size : Int) == 0) = false := beq_eq_false_iff_ne.2 (by omega)
 by_cases h3 : w.size > 3
 ·have e1 : (w.size : Int) > 3 := by omega
  have hr : rnum w = -1 := by
   obtain ⟨k, hk⟩ : ∃ k, w.size = k + 1 := ⟨w.size - 1, by omega⟩
   rw [rnum, hnum, hk, numGo, if_neg (fun h => by omega)]; rfl
  rw [hr]
  simp only [pc_ref_number, rs_ref_number, e0, e1, RN, qA, qB, qC, qD, qE, qF]
 have e1 : ¬ (w.size : Int) > 3 := by omega
 simp only [pc_ref_number, rs_ref_number, e0, e1, RN, qA, qB, qC, qD, qE, qF]
 refine pwp_range w.size (fun i (n : Int) => ⟨[(0, .d (.str w)), (3, .d (.int .i64 n)), (4, .d (.int .i64 i))], ⟨[], [], []⟩⟩)
  (fun i n => numGo w w.size 0 0 = numGo w (w.size - i) i n ∧ 0 ≤ n ∧ n < 10 ^ i) 0 0 (Nat.zero_le _) rfl ⟨rfl, by decide, by decide⟩ (fun i n g1 hix => ?_) (fun n hix => ?_)
 ·obtain ⟨r1, r2, r3⟩ := hix
  obtain ⟨g2, g3, g6⟩ := rng g1 (by omega)
  obtain ⟨k, hk⟩ : ∃ k, w.size - i = k + 1 := ⟨w.size - i - 1, by omega⟩
  rw [hk, numGo] at r1
  generalize hb : w.data.getD i 0 = b at *
  have hb8 : b.toNat < 256 := UInt8.toNat_lt _
  by_cases c1 : b.toNat < 48
  ·have x1 : (b.toNat : Int) < 48 := by omega
   have hr : rnum w = -1 := by rw [rnum, hnum, r1, if_neg (fun h => by omega)]; rfl
   rw [hr]
   simp only [g2, g3, g1, Int.toNat_natCast, hb, x1, RN, qA, qB, qC, qD, qE, qF]
  have x1 : ¬ (b.toNat : Int) < 48 := by omega
  by_cases c2 : b.toNat > 57
  ·have x2 : (b.toNat : Int) > 57 := by omega
   have hr : rnum w = -1 := by rw [rnum, hnum, r1, if_neg (fun h => by omega)]; rfl
   rw [hr]
   simp only [g2, g3, g1, Int.toNat_natCast, hb, x1, x2, RN, qA, qB, qC, qD, qE, qF]
  have x2 : ¬ (b.toNat : Int) > 57 := by omega
  rw [if_pos ⟨by omega, by omega, by omega⟩] at r1
  have hpw : (10 : Int) ^ i ≤ 100 := by
   rcases i with _ | _ | _ | i
   ·decide
   ·decide
   ·decide
   ·omega
  have w1 : IntKind.i64.wrap (10 * n) = 10 * n := w64_in (by omega)
  have w2 : IntKind.u8.wrap ((b.toNat : Int) - 48) = (b.toNat : Int) - 48 := by
   obtain ⟨m, hm⟩ : ∃ m : Nat, (b.toNat : Int) - 48 = m := Int.eq_ofNat_of_zero_le (by omega)
   have hm2 : m < 10 := by omega
   rw [hm]
   exact (by decide : ∀ m < 10, IntKind.u8.wrap ((m : Nat) : Int) = m) m hm2
  have w3 : IntKind.i64.wrap ((b.toNat : Int) - 48) = (b.toNat : Int) - 48 := w64_in (by omega)
  have w4 : IntKind.i64.wrap (10 * n + ((b.toNat : Int) - 48)) = 10 * n + ((b.toNat : Int) - 48) := w64_in (by omega)
  simp only [g2, g3, g1, Int.toNat_natCast, hb, x1, x2, w1, w2, w3, w4, g6, RN, qA, qB, qC, qD, qE, qF]
  refine up_same (10 * n + ((b.toNat : Int) - 48)) g1 rfl ⟨?_, by omega, by rw [Int.pow_succ]; omega⟩ (by simp) (by simp) rfl rfl
  rw [r1, show w.size - (i + 1) = k by omega]
 ·obtain ⟨r1, r2, r3⟩ := hix
  rw [Nat.sub_self, numGo] at r1
  have hpw : (10 : Int) ^ w.size ≤ 1000 := by
   generalize w.size = z at *
   rcases z with _ | _ | _ | _ | z
   ·decide
   ·decide
   ·decide
   ·decide
   ·omega
  obtain ⟨m, rfl⟩ := Int.eq_ofNat_of_zero_le r2
  simp only [Int.lt_irrefl, RN, qA, qB, qC, qD, qE, qF]
  refine call_d rfl rfl (Decimal_c m (by omega)) ?_
  rw [decS_eq]
  by_cases he : (itoaB m).data.toList = w.data.toList
  ·have e1 : ((itoaB m).toList == w.toList) = true := by rw [Go.Lib.toList_data, Go.Lib.toList_data]; exact beq_iff_eq.2 he
   simp only [bin_str, str_neq, e1, RN, qA, qB, qC, qD, qE, qF]
   rw [rnum, hnum, r1]
   simp only
   rw [if_pos ⟨hz, he⟩]; rfl
  ·have e1 : ((itoaB m).toList == w.toList) = false := by rw [Go.Lib.toList_data, Go.Lib.toList_data]; exact beq_eq_false_iff_ne.2 he
   simp only [bin_str, str_neq, e1, RN, qA, qB, qC, qD, qE, qF]
   rw [rnum, hnum, r1]
   simp only
   rw [if_neg (fun h => he h.2)]; rfl
end Go.Tel
