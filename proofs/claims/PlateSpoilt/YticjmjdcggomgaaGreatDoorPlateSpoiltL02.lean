/-
  Part 2 of the proof of a law of plates, the law itself: an abstract machine over the model, contracts of functions, plain laws.
  Conditions: none.
-/
import Derived.Test.YticjmjdcggomgaaGreatDoorPlateSpoiltL01
set_option linter.all false
namespace Go.Tel
end Go.Tel
open Nat renaming reduceBEq → qA, reduceAdd → qB, reduceSub → qC, reduceEqDiff → qD, reduceLT → qE, reduceLeDiff → qF
namespace Go.Tel
open Go.Am
theorem cellsEq_pt (x y : Pt) : cellsEq [1, 1] [.int .i64 x.x, .int .i64 x.y] [.int .i64 y.x, .int .i64 y.y] = some (decide (x = y)) := by
 obtain ⟨a, b⟩ := x
 obtain ⟨c, d⟩ := y
 by_cases h1 : a = c <;> by_cases h2 : b = d <;> simp [cellsEq, h1, h2]
theorem cellsEq_ms (x y : Ms) : cellsEq [1, 1] [.int .i64 x.a, .int .i64 x.b] [.int .i64 y.a, .int .i64 y.b] = some (decide (x = y)) := by
 obtain ⟨a, b⟩ := x
 obtain ⟨c, d⟩ := y
 by_cases h1 : a = c <;> by_cases h2 : b = d <;> simp [cellsEq, h1, h2]
set_option maxRecDepth 10000 in
set_option maxHeartbeats 4000000 in
theorem rPiece_c (p : Piece) (hc : p.cs.length ≤ 1000) (hw : p.ws.length ≤ 1000) (hm : p.ms.length ≤ 1000) : Pure C F.ref_Piece [p.dv] (.d (.bool p.ok)) [] := by
 refine pure_of_pwp_d mixed rfl ok_ref_Piece ?_
 simp only [pc_ref_Piece, rs_ref_Piece, dv_Piece, RN, qA, qB, qC, qD, qE, qF]
 by_cases hh : p.headOk = true
 case neg =>
  have hok : p.ok = false := by simp [Piece.ok, hh]
  rw [hok]
  repeat' first
   | (refine call_d rfl rfl (rin_c _ _ _) ?_; try simp only [RN, qA, qB, qC, qD, qE, qF])
   | (refine guard_split (by rfl) (fun hB => ?_) (fun hB => ?_) <;> simp only [hB, RN, qA, qB, qC, qD, qE, qF])
   | (refine cond_split (by rfl) (fun hB => ?_) (fun hB => ?_) <;> simp only [hB, RN, qA, qB, qC, qD, qE, qF])
  all_goals (first | rfl | (exfalso; simp_all [Piece.headOk]; done))
 have hh' := hh
 simp only [Piece.headOk, Bool.and_eq_true] at hh'
 obtain ⟨⟨⟨⟨a1, a2⟩, a3⟩, a4⟩, a5⟩ := hh'
 refine call_d rfl rfl (rin_c _ _ _) ?_
 simp only [a1, RN, qA, qB, qC, qD, qE, qF]
 refine call_d rfl rfl (rin_c _ _ _) ?_
 simp only [a2, RN, qA, qB, qC, qD, qE, qF]
 refine call_d rfl rfl (rin_c _ _ _) ?_
 simp only [a3, RN, qA, qB, qC, qD, qE, qF]
 refine call_d rfl rfl (rin_c _ _ _) ?_
 simp only [a4, RN, qA, qB, qC, qD, qE, qF]
 refine call_d rfl rfl (rin_c _ _ _) ?_
 simp only [a5, List.length_map, RN, qA, qB, qC, qD, qE, qF]
 refine call_d rfl rfl (rin_c _ _ _) ?_
 by_cases l1 : inR p.cs.length 1 6 = true
 case neg =>
  have l1' : inR p.cs.length 1 6 = false := by simpa using l1
  simp only [l1', RN, qA, qB, qC, qD, qE, qF]
  simp [Piece.ok, Piece.lensOk, l1']
 by_cases l2 : p.ws.length ≤ 8
 case neg =>
  have b2 : (p.ws.length : Int) > 8 := by omega
  simp only [l1, b2, List.length_map, RN, qA, qB, qC, qD, qE, qF]
  simp [Piece.ok, Piece.lensOk, l1, b2]
 have b2 : ¬ (p.ws.length : Int) > 8 := by omega
 by_cases l3 : p.ms.length ≤ 10
 case neg =>
  have b3 : (p.ms.length : Int) > 10 := by omega
  simp only [l1, b2, b3, List.length_map, RN, qA, qB, qC, qD, qE, qF]
  simp [Piece.ok, Piece.lensOk, l1, b2, b3]
 have b3 : ¬ (p.ms.length : Int) > 10 := by omega
 simp only [l1, b2, b3, List.length_map, RN, qA, qB, qC, qD, qE, qF]
 have hlens : p.lensOk = true := by simp [Piece.lensOk, l1, b2, b3]
 have hok : p.ok = (ptsOk p.w p.h [] p.cs && mssOk p.ws.length [] p.ms && p.ws.all (whOk p.cs.length)) := by simp [Piece.ok, hh, hlens]
 rw [hok]
 refine pwp_range p.cs.length (fun i (_ : Unit) => ⟨[(1, .d (.cptr p.cells)), (3, .d (.int .i64 i))], ⟨[some (p.cells.map .d)], [0], []⟩⟩)
  (fun i _ => ptsOk p.w p.h [] p.cs = ptsOk p.w p.h (p.cs.take i) (p.cs.drop i)) 0 () (Nat.zero_le _) rfl (by simp) (fun i _ g1 hix => ?_) (fun _ hix => ?_)
 ·obtain ⟨g2, g3, g6⟩ := rng g1 (by omega)
  rw [drop_cons g1, ptsOk, ← take_snoc g1] at hix
  simp only [Piece.cells, g2, g3, g1, getD_map, Int.toNat_natCast, List.length_map, dv_Pt, List.not_mem_nil, RN, qA, qB, qC, qD, qE, qF]
  have hci : p.cs.getD i default = p.cs.getD i default := rfl
  generalize hcg : p.cs.getD i default = c at *
  refine call_d rfl rfl (rin_c _ _ _) ?_
  by_cases x1 : inR c.x 0 p.w = true
  case neg =>
   have x1' : inR c.x 0 p.w = false := by simpa using x1
   simp only [x1', RN, qA, qB, qC, qD, qE, qF]
   simp [hix, x1']
  simp only [x1, RN, qA, qB, qC, qD, qE, qF]
  refine call_d rfl rfl (rin_c _ _ _) ?_
  by_cases x2 : inR c.y 0 p.h = true
  case neg =>
   have x2' : inR c.y 0 p.h = false := by simpa using x2
   simp only [x2', RN, qA, qB, qC, qD, qE, qF]
   simp [hix, x2']
  simp only [x2, RN, qA, qB, qC, qD, qE, qF]
  rw [x1, x2, Bool.true_and, Bool.true_and] at hix
  refine pwp_range i (fun k (_ : Unit) => ⟨[(1, .d (.cptr p.cells)), (3, .d (.int .i64 i)), (4, .d (.cptr [.int .i64 c.x, .int .i64 c.y])), (5, .d (.int .i64 k))], ⟨[some (p.cells.map .d), some [.d (.int .i64 c.x), .d (.int .i64 c.y)]], [1, 0], []⟩⟩)
   (fun k _ => c ∉ p.cs.take k) 0 () (Nat.zero_le _) rfl (by simp) (fun k _ e1 hk => ?_) (fun _ hk => ?_)
  ·obtain ⟨e2, e3, e6⟩ := rng e1 (by omega)
   have e1' : k < p.cs.length := by omega
   simp only [Piece.cells, e2, e3, e1', getD_map, Int.toNat_natCast, List.length_map, dv_Pt, RN, qA, qB, qC, qD, qE, qF]
   rw [ev_binA (cellsEq_pt _ _)]
   by_cases he : p.cs.getD k default = c
   ·rw [decide_eq_true he]
    have hx : (true != false) = true := rfl
    have hmem : c ∈ p.cs.take i := by
     rw [← he, List.getD_eq_getElem?_getD, List.getElem?_eq_getElem e1']
     exact List.mem_take_iff_getElem.2 ⟨k, by omega, rfl⟩
    simp only [hx, RN, qA, qB, qC, qD, qE, qF]
    simp [hix, hmem]
   ·rw [decide_eq_false he]
    have hx : (false != false) = false := rfl
    simp only [hx, e6, RN, qA, qB, qC, qD, qE, qF]
    exact up_same () e1 rfl (by rw [take_snoc e1']; simp only [List.mem_append, List.mem_singleton, not_or]; exact ⟨hk, fun h => he h.symm⟩) (by simp) (by simp) rfl rfl
  ·have hcn : (p.cs.take i).contains c = false := by simpa using hk
   rw [hcn, Bool.not_false, Bool.true_and] at hix
   simp only [Int.lt_irrefl, g6, RN, qA, qB, qC, qD, qE, qF]
   exact up_take 1 0 () g1 rfl hix (by simp) (by simp) rfl rfl
 ·rw [List.drop_length, ptsOk] at hix
  simp only [Piece.cells, Int.lt_irrefl, List.length_map, RN, qA, qB, qC, qD, qE, qF]
  rw [hix, Bool.true_and]
  refine pwp_range p.ws.length (fun i (_ : Unit) => ⟨[(1, .d (.cptr p.cells)), (6, .d (.int .i64 i))], ⟨[some (p.cells.map .d)], [0], []⟩⟩)
   (fun i _ => p.ws.all (whOk p.cs.length) = (p.ws.drop i).all (whOk p.cs.length)) 0 () (Nat.zero_le _) rfl (by simp) (fun i _ g1 hjx => ?_) (fun _ hjx => ?_)
  ·obtain ⟨g2, g3, g6⟩ := rng g1 (by omega)
   have wl : IntKind.i64.wrap ((p.cs.length : Int) - 1) = (p.cs.length : Int) - 1 := w64_in (by omega)
   rw [drop_cons g1, List.all_cons] at hjx
   simp only [Piece.cells, g2, g3, g1, getD_map, Int.toNat_natCast, List.length_map, dv_Wh, List.not_mem_nil, wl, RN, qA, qB, qC, qD, qE, qF]
   generalize p.ws.getD i default = w at *
   refine call_d rfl rfl (rin_c _ _ _) ?_
   by_cases x1 : inR w.centre 0 ((p.cs.length : Int) - 1) = true
   case neg =>
    have x1' := eq_false_of_ne_true x1
    simp only [x1', RN, qA, qB, qC, qD, qE, qF]
    simp [hjx, whOk, x1']
   simp only [x1, RN, qA, qB, qC, qD, qE, qF]
   refine call_d rfl rfl (rin_c _ _ _) ?_
   by_cases x2 : inR w.sleeve 0 2 = true
   case neg =>
    have x2' := eq_false_of_ne_true x2
    simp only [x2', RN, qA, qB, qC, qD, qE, qF]
    simp [hjx, whOk, x2']
   simp only [x2, RN, qA, qB, qC, qD, qE, qF]
   refine call_d rfl rfl (rin_c _ _ _) ?_
   by_cases x3 : inR w.layer 0 5 = true
   case neg =>
    have x3' := eq_false_of_ne_true x3
    simp only [x3', RN, qA, qB, qC, qD, qE, qF]
    simp [hjx, whOk, x3']
   simp only [x3, RN, qA, qB, qC, qD, qE, qF]
   refine call_d rfl rfl (rin_c _ _ _) ?_
   by_cases x4 : inR w.teeth 4 50 = true
   case neg =>
    have x4' := eq_false_of_ne_true x4
    simp only [x4', RN, qA, qB, qC, qD, qE, qF]
    simp [hjx, whOk, x4']
   simp only [x4, g6, RN, qA, qB, qC, qD, qE, qF]
   exact up_take 1 0 () g1 rfl (by rw [hjx]; simp [whOk, x1, x2, x3, x4]) (by simp) (by simp) rfl rfl
  rw [List.drop_length, List.all_nil] at hjx
  rw [hjx, Bool.and_true]
  simp only [Piece.cells, Int.lt_irrefl, List.length_map, RN, qA, qB, qC, qD, qE, qF]
  refine pwp_range p.ms.length (fun i (_ : Unit) => ⟨[(1, .d (.cptr p.cells)), (8, .d (.int .i64 i))], ⟨[some (p.cells.map .d)], [0], []⟩⟩)
   (fun i _ => mssOk p.ws.length [] p.ms = mssOk p.ws.length (p.ms.take i) (p.ms.drop i)) 0 () (Nat.zero_le _) rfl (by simp) (fun i _ g1 hkx => ?_) (fun _ hkx => ?_)
  ·obtain ⟨g2, g3, g6⟩ := rng g1 (by omega)
   have hwc : ∀ n, Pure C F.ref_Wheel [.agg p.cells, .int .i64 n] (.d (.bool (inR n 0 (p.ws.length - 1)))) [] := fun n => by
    have := rWheel_c p n (by omega)
    rw [dv_Piece] at this
    exact this
   rw [drop_cons g1, mssOk, ← take_snoc g1] at hkx
   simp only [Piece.cells, g2, g3, g1, getD_map, Int.toNat_natCast, List.length_map, dv_Ms, List.not_mem_nil, RN, qA, qB, qC, qD, qE, qF]
   generalize p.ms.getD i default = c at *
   refine call_d rfl rfl (hwc _) ?_
   by_cases x1 : inR c.a 0 ((p.ws.length : Int) - 1) = true
   case neg =>
    have x1' := eq_false_of_ne_true x1
    simp only [x1', RN, qA, qB, qC, qD, qE, qF]
    simp [hkx, x1']
   simp only [x1, RN, qA, qB, qC, qD, qE, qF]
   refine call_d rfl rfl (hwc _) ?_
   by_cases x2 : inR c.b 0 ((p.ws.length : Int) - 1) = true
   case neg =>
    have x2' := eq_false_of_ne_true x2
    simp only [x2', RN, qA, qB, qC, qD, qE, qF]
    simp [hkx, x2']
   by_cases x3 : c.a ≥ c.b
   case pos =>
    simp only [x2, x3, RN, qA, qB, qC, qD, qE, qF]
    rw [hkx, decide_eq_true x3]
    simp
   simp only [x2, x3, RN, qA, qB, qC, qD, qE, qF]
   rw [x1, x2, decide_eq_false x3, Bool.not_false, Bool.true_and, Bool.true_and, Bool.true_and] at hkx
   refine pwp_range i (fun k (_ : Unit) => ⟨[(1, .d (.cptr p.cells)), (8, .d (.int .i64 i)), (9, .d (.cptr [.int .i64 c.a, .int .i64 c.b])), (10, .d (.int .i64 k))], ⟨[some (p.cells.map .d), some [.d (.int .i64 c.a), .d (.int .i64 c.b)]], [1, 0], []⟩⟩)
    (fun k _ => c ∉ p.ms.take k) 0 () (Nat.zero_le _) rfl (by simp) (fun k _ e1 hk => ?_) (fun _ hk => ?_)
   ·obtain ⟨e2, e3, e6⟩ := rng e1 (by omega)
    have e1' : k < p.ms.length := by omega
    simp only [Piece.cells, e2, e3, e1', getD_map, Int.toNat_natCast, List.length_map, dv_Ms, RN, qA, qB, qC, qD, qE, qF]
    rw [ev_binA (cellsEq_ms _ _)]
    by_cases he : p.ms.getD k default = c
    ·rw [decide_eq_true he]
     have hx : (true != false) = true := rfl
     have hmem : c ∈ p.ms.take i := by
      rw [← he, List.getD_eq_getElem?_getD, List.getElem?_eq_getElem e1']
      exact List.mem_take_iff_getElem.2 ⟨k, by omega, rfl⟩
     simp only [hx, RN, qA, qB, qC, qD, qE, qF]
     simp [hkx, hmem]
    ·rw [decide_eq_false he]
     have hx : (false != false) = false := rfl
     simp only [hx, e6, RN, qA, qB, qC, qD, qE, qF]
     exact up_same () e1 rfl (by rw [take_snoc e1']; simp only [List.mem_append, List.mem_singleton, not_or]; exact ⟨hk, fun h => he h.symm⟩) (by simp) (by simp) rfl rfl
   ·have hcn : (p.ms.take i).contains c = false := by simpa using hk
    rw [hcn, Bool.not_false, Bool.true_and] at hkx
    simp only [Int.lt_irrefl, g6, RN, qA, qB, qC, qD, qE, qF]
    exact up_take 1 0 () g1 rfl hkx (by simp) (by simp) rfl rfl
  ·rw [List.drop_length, mssOk] at hkx
   simp only [Piece.cells, Int.lt_irrefl, List.length_map, RN, qA, qB, qC, qD, qE, qF]
   rw [hkx]
end Go.Tel
open Nat renaming reduceBEq → qA, reduceAdd → qB, reduceSub → qC, reduceEqDiff → qD, reduceLT → qE, reduceLeDiff → qF
namespace Go.Tel
open Go.Am
end Go.Tel
namespace Go.Tel
open Go.Am
end Go.Tel
open Nat renaming reduceBEq → qA, reduceAdd → qB, reduceSub → qC, reduceEqDiff → qD, reduceLT → qE, reduceLeDiff → qF
namespace Go.Tel
open Go.Am
end Go.Tel
open Nat renaming reduceBEq → qA, reduceAdd → qB, reduceSub → qC, reduceEqDiff → qD, reduceLT → qE, reduceLeDiff → qF
namespace Go.Am
end Go.Am
namespace Go.Tel
open Go.Am
structure WoS where
 ver : Nat
 c : PV
 ar : List (Option Arr)
end Go.Tel
namespace Go.Tel
open Go.Am Go.Lib
theorem bext {a b : ByteArray} (h : a.data.toList = b.data.toList) : a = b := by
 cases a with | mk x => cases b with | mk y =>
 simp only at h
 rw [Array.toList_inj.1 h]
theorem app_data (a b : ByteArray) : (a ++ b).data.toList = a.data.toList ++ b.data.toList := by
 rw [ByteArray.data_append, Array.toList_append]
def spl (c : UInt8) : List UInt8 → List (List UInt8)
 | [] => [[]]
 | b :: l => if b = c then [] :: spl c l else match spl c l with
  | x :: r => (b :: x) :: r
  | [] => [[b]]
theorem spl_hit {c : UInt8} : ∀ {x : List UInt8} {l : List UInt8}, c ∉ x → spl c (x ++ c :: l) = x :: spl c l
 | [], l, _ => by rw [List.nil_append, spl, if_pos rfl]
 | b :: x, l, h => by
  have h1 : b ≠ c := fun e => h (by rw [e]; exact List.mem_cons_self)
  rw [List.cons_append, spl, if_neg h1, spl_hit fun hh => h (List.mem_cons_of_mem _ hh)]
def linesOf (c : UInt8) (xs : List (List UInt8)) : List UInt8 := (xs.map fun x => x ++ [c]).flatten
theorem spl_lines {c : UInt8} : ∀ {xs : List (List UInt8)}, (∀ x ∈ xs, c ∉ x) → spl c (linesOf c xs) = xs ++ [[]]
 | [], _ => rfl
 | x :: xs, h => by
  have e : linesOf c (x :: xs) = x ++ c :: linesOf c xs := by simp [linesOf]
  rw [e, spl_hit (h x List.mem_cons_self), spl_lines fun y hy => h y (List.mem_cons_of_mem _ hy)]; rfl
theorem join_lines (c : UInt8) : ∀ (x : List UInt8) (xs : List (List UInt8)), join (x :: xs) [c] ++ [c] = linesOf c (x :: xs)
 | x, [] => by simp [join_cons, joinTail, linesOf]
 | x, y :: xs => by
  have ih := join_lines c y xs
  rw [join_cons] at ih ⊢
  have e : linesOf c (x :: y :: xs) = x ++ (c :: linesOf c (y :: xs)) := by simp [linesOf]
  rw [e, ← ih]
  simp [joinTail]
theorem itoa_n (n : Nat) : (itoaB (n : Int)).data.toList = decDigits n := by
 rw [itoaB, itoa, if_neg (by omega), Int.toNat_natCast]
theorem dig_nat {d : Nat} (h : d < 10) : (UInt8.ofNat (48 + d)).toNat = 48 + d := by
 have : 48 + d < 256 := by omega
 simp [UInt8.toNat_ofNat]; omega
theorem dec1 {n : Nat} (h : n < 10) : decDigits n = [UInt8.ofNat (48 + n)] := by rw [decDigits, dif_pos h]
theorem dec2 {n : Nat} (h : ¬ n < 10) : decDigits n = decDigits (n / 10) ++ [UInt8.ofNat (48 + n % 10)] := by rw [decDigits, dif_neg h]
theorem dec_dig : ∀ (k n : Nat), n ≤ k → ∀ b ∈ decDigits n, 48 ≤ b.toNat ∧ b.toNat ≤ 57
 | k, n, hk, b, hb => by
  by_cases h : n < 10
  ·rw [dec1 h, List.mem_singleton] at hb
   rw [hb, dig_nat h]; omega
  ·rw [dec2 h] at hb
   rcases List.mem_append.1 hb with hb | hb
   ·cases k with
    | zero => omega
    | succ k => exact dec_dig k (n / 10) (by omega) b hb
   ·rw [List.mem_singleton.1 hb, dig_nat (Nat.mod_lt _ (by decide))]
    have : n % 10 < 10 := Nat.mod_lt _ (by decide)
    omega
theorem itoa_dig {n : Int} (h : 0 ≤ n) : ∀ b ∈ (itoaB n).data.toList, 48 ≤ b.toNat ∧ b.toNat ≤ 57 := by
 obtain ⟨m, rfl⟩ := Int.eq_ofNat_of_zero_le h
 rw [itoa_n]
 exact dec_dig m m (Nat.le_refl _)
theorem itoa_nb {n : Int} (h : 0 ≤ n) {c : UInt8} (hc : c.toNat < 48) : c ∉ (itoaB n).data.toList := fun hh => by
 have := itoa_dig h c hh
 omega
theorem dec_len {n : Nat} (h : n ≤ 999) : (decDigits n).length ≤ 3 ∧ 1 ≤ (decDigits n).length := by
 by_cases h1 : n < 10
 ·rw [dec1 h1]; simp
 ·rw [dec2 h1]
  by_cases h2 : n / 10 < 10
  ·rw [dec1 h2]; simp
  ·rw [dec2 h2, dec1 (show n / 10 / 10 < 10 by omega)]; simp
theorem getD_list (w : ByteArray) (i : Nat) : w.data.getD i 0 = w.data.toList.getD i 0 := by
 rw [Array.getD_eq_getD_getElem?, ← Array.getElem?_toList, List.getD_eq_getElem?_getD]
theorem addNums_data : ∀ (ns : List Int) (out : ByteArray), (addNums out ns).data.toList = out.data.toList ++ (ns.map fun n => 32 :: (itoaB n).data.toList).flatten
 | [], out => by simp [addNums]
 | n :: ns, out => by
  rw [addNums, addNums_data ns, app_data, app_data]
  simp
theorem map_data_inj {xs ys : List ByteArray} (h : xs.map (·.data.toList) = ys.map (·.data.toList)) : xs = ys := by
 induction xs generalizing ys with
 | nil => cases ys with
  | nil => rfl
  | cons y ys => cases h
 | cons x xs ih => cases ys with
  | nil => cases h
  | cons y ys =>
   simp only [List.map_cons, List.cons.injEq] at h
   rw [bext h.1, ih h.2]
theorem words_nb {k : Nat} (hk : k < 4) : (32 : UInt8) ∉ (wordsL.getD k default).data.toList ∧ (10 : UInt8) ∉ (wordsL.getD k default).data.toList := by
 obtain rfl | rfl | rfl | rfl : k = 0 ∨ k = 1 ∨ k = 2 ∨ k = 3 := by omega
 all_goals exact ⟨by decide, by decide⟩
theorem row_nl {k : Nat} (hk : k < 4) {ns : List Int} (h : ∀ n ∈ ns, 0 ≤ n) : (10 : UInt8) ∉ (addNums (wordsL.getD k default) ns).data.toList := by
 rw [addNums_data]
 intro hh
 rcases List.mem_append.1 hh with hh | hh
 ·exact (words_nb hk).2 hh
 ·obtain ⟨l, hl, hx⟩ := List.mem_flatten.1 hh
  obtain ⟨n, hn, rfl⟩ := List.mem_map.1 hl
  rcases List.mem_cons.1 hx with hx | hx
  ·cases hx
  ·exact itoa_nb (h n hn) (by decide) hx
structure Piece.three (p : Piece) : Prop where
 nums : ∀ n ∈ p.nums, 0 ≤ n ∧ n ≤ 999
 cs : ∀ c ∈ p.cs, ∀ n ∈ c.nums, 0 ≤ n ∧ n ≤ 999
 ws : ∀ c ∈ p.ws, ∀ n ∈ c.nums, 0 ≤ n ∧ n ≤ 999
 ms : ∀ c ∈ p.ms, ∀ n ∈ c.nums, 0 ≤ n ∧ n ≤ 999
theorem chkK_ge (r : ByteArray) (i : Nat) : ∀ (k : Nat) (c : Int), 0 ≤ c → 0 ≤ chkK r i k c
 | 0, c, h => h
 | k + 1, c, h => by
  rw [chkK]
  have h1 := chkK_ge r i k c h
  have h2 : (0 : Int) ≤ ((r.data.getD k 0).toNat : Int) * ((k : Int) + 1) * ((i : Int) + 1) := Int.mul_nonneg (Int.mul_nonneg (by omega) (by omega)) (by omega)
  omega
theorem chkRows_ge : ∀ (l : List ByteArray) (i : Nat) (c : Int), 0 ≤ c → 0 ≤ chkRows l i c
 | [], _, _, h => h
 | r :: l, i, c, h => by rw [chkRows]; exact chkRows_ge l (i + 1) _ (chkK_ge r i _ c h)
theorem chk_bd (l : List ByteArray) : 0 ≤ (chkRows l 0 0).tmod 127 ∧ (chkRows l 0 0).tmod 127 < 127 := ⟨Int.tmod_nonneg _ (chkRows_ge l 0 0 (Int.le_refl _)), Int.tmod_lt_of_pos _ (by decide)⟩
theorem end_parts {c : Int} (h : 0 ≤ c ∧ c < 127) : (0 ≤ c.tdiv 100 ∧ c.tdiv 100 ≤ 9) ∧ (0 ≤ (c.tdiv 10).tmod 10 ∧ (c.tdiv 10).tmod 10 ≤ 9) ∧ (0 ≤ c.tmod 10 ∧ c.tmod 10 ≤ 9) := by
 obtain ⟨m, rfl⟩ := Int.eq_ofNat_of_zero_le h.1
 have e1 : ((m : Nat) : Int).tdiv 100 = ((m / 100 : Nat) : Int) := (Int.ofNat_tdiv m 100).symm
 have e2 : ((m : Nat) : Int).tdiv 10 = ((m / 10 : Nat) : Int) := (Int.ofNat_tdiv m 10).symm
 have e3 : ((m / 10 : Nat) : Int).tmod 10 = ((m / 10 % 10 : Nat) : Int) := (Int.ofNat_tmod _ 10).symm
 have e4 : ((m : Nat) : Int).tmod 10 = ((m % 10 : Nat) : Int) := (Int.ofNat_tmod m 10).symm
 rw [e2, e1, e3, e4]
 omega
theorem end_nl {c : Int} (h : 0 ≤ c ∧ c < 127) : (10 : UInt8) ∉ (endRow c).data.toList := by
 obtain ⟨h1, h2, h3⟩ := end_parts h
 rw [endRow, app_data, app_data, app_data]
 intro hh
 rcases List.mem_append.1 hh with hh | hh
 ·rcases List.mem_append.1 hh with hh | hh
  ·rcases List.mem_append.1 hh with hh | hh
   ·revert hh; decide
   ·exact itoa_nb h1.1 (by decide) hh
  ·exact itoa_nb h2.1 (by decide) hh
 ·exact itoa_nb h3.1 (by decide) hh
theorem rows_nl {p : Piece} (h : p.three) : ∀ r ∈ p.rows, (10 : UInt8) ∉ r.data.toList := by
 intro r hr
 simp only [Piece.rows, List.mem_cons, List.mem_append, List.mem_map] at hr
 rcases hr with rfl | (⟨c, hc, rfl⟩ | ⟨c, hc, rfl⟩) | ⟨c, hc, rfl⟩
 ·exact row_nl (by decide) fun n hn => (h.nums n hn).1
 ·exact row_nl (by decide) fun n hn => (h.cs c hc n hn).1
 ·exact row_nl (by decide) fun n hn => (h.ws c hc n hn).1
 ·exact row_nl (by decide) fun n hn => (h.ms c hc n hn).1
theorem text_data (p : Piece) : p.text.data.toList = linesOf 10 ((p.rows ++ [endRow ((chkRows p.rows 0 0).tmod 127)]).map (·.data.toList)) := by
 rw [Piece.text, app_data, joinS]
 have hr : p.rows = addNums (wordsL.getD 0 default) p.nums :: (p.cs.map csRow ++ p.ws.map wsRow ++ p.ms.map msRow) := rfl
 generalize endRow ((chkRows p.rows 0 0).tmod 127) = e
 rw [hr, List.cons_append, List.map_cons, ← join_lines]
end Go.Tel
namespace Go.Tel
open Go.Am Go.Lib
theorem ok_three {p : Piece} (h : p.ok = true) : p.three := by
 have hm := Piece.ok_ms h
 have hl := Piece.ok_lens h
 simp only [Piece.ok, Piece.headOk, inR, Bool.and_eq_true, decide_eq_true_eq, ge_iff_le] at h
 obtain ⟨⟨⟨⟨k1, k2⟩, k3⟩, k4⟩, k5⟩ := h
 constructor
 ·intro n hn
  simp only [Piece.nums, List.mem_cons, List.not_mem_nil, or_false] at hn
  rcases hn with rfl | rfl | rfl | rfl | rfl <;> omega
 ·intro c hc n hn
  have := ptsOk_mem k3 c hc
  simp only [Pt.nums, List.mem_cons, List.not_mem_nil, or_false] at hn
  rcases hn with rfl | rfl <;> omega
 ·intro c hc n hn
  have := List.all_eq_true.1 k5 c hc
  simp only [whOk, inR, Bool.and_eq_true, decide_eq_true_eq, ge_iff_le] at this
  simp only [Wh.nums, List.mem_cons, List.not_mem_nil, or_false] at hn
  rcases hn with rfl | rfl | rfl | rfl <;> omega
 ·intro c hc n hn
  obtain ⟨⟨a1, a2⟩, b1, b2⟩ := hm c hc
  simp only [Ms.nums, List.mem_cons, List.not_mem_nil, or_false] at hn
  rcases hn with rfl | rfl <;> omega
theorem three_small {p : Piece} (h : p.three) (lc : p.cs.length ≤ 1000) (lw : p.ws.length ≤ 1000) (lm : p.ms.length ≤ 1000) : p.small := by
 have big : ∀ n : Int, 0 ≤ n ∧ n ≤ 999 → -1000000 ≤ n ∧ n ≤ 1000000 := by intro n hn; omega
 exact ⟨big _ (h.nums _ (by simp [Piece.nums])), big _ (h.nums _ (by simp [Piece.nums])), big _ (h.nums _ (by simp [Piece.nums])), big _ (h.nums _ (by simp [Piece.nums])), big _ (h.nums _ (by simp [Piece.nums])),
  fun c hc n hn => big n (h.cs c hc n hn), fun c hc n hn => big n (h.ws c hc n hn), fun c hc n hn => big n (h.ms c hc n hn), lc, lw, lm⟩
theorem itoa_3 {n : Int} (h : 0 ≤ n ∧ n ≤ 999) : (itoaB n).size ≤ 3 := by
 obtain ⟨m, rfl⟩ := Int.eq_ofNat_of_zero_le h.1
 rw [← size_data, itoa_n]
 exact (dec_len (by omega)).1
theorem addNums_3 : ∀ (ns : List Int) (out : ByteArray), (∀ n ∈ ns, 0 ≤ n ∧ n ≤ 999) → (addNums out ns).size ≤ out.size + 4 * ns.length
 | [], out, _ => by simp [addNums]
 | n :: l, out, h => by
  have h1 := addNums_3 l (out ++ (⟨#[32]⟩ ++ itoaB n)) (fun x hx => h x (List.mem_cons_of_mem _ hx))
  have h2 := itoa_3 (h n List.mem_cons_self)
  have h3 : (⟨#[32]⟩ : ByteArray).size = 1 := rfl
  simp only [ByteArray.size_append] at h1
  rw [addNums, List.length_cons]
  omega
theorem linesOf_app (c : UInt8) (xs ys : List (List UInt8)) : linesOf c (xs ++ ys) = linesOf c xs ++ linesOf c ys := by simp [linesOf]
theorem linesOf_len (c : UInt8) (B : Nat) : ∀ xs : List (List UInt8), (∀ x ∈ xs, x.length ≤ B) → (linesOf c xs).length ≤ xs.length * (B + 1)
 | [], _ => by simp [linesOf]
 | x :: xs, h => by
  have e : linesOf c (x :: xs) = x ++ [c] ++ linesOf c xs := by simp [linesOf]
  have h1 := linesOf_len c B xs fun y hy => h y (List.mem_cons_of_mem _ hy)
  have h2 := h x List.mem_cons_self
  rw [e, List.length_append, List.length_append, List.length_singleton, List.length_cons, Nat.succ_mul]
  omega
theorem text_size {p : Piece} (h : p.ok = true) : p.text.size ≤ 500 := by
 have h3 := ok_three h
 obtain ⟨l1, l2, l3⟩ := Piece.ok_lens h
 have w0 : (wordsL.getD 0 default).size = 5 := rfl
 have w1 : (wordsL.getD 1 default).size = 6 := rfl
 have w2 : (wordsL.getD 2 default).size = 5 := rfl
 have w3 : (wordsL.getD 3 default).size = 4 := rfl
 have hr : p.rows = addNums (wordsL.getD 0 default) p.nums :: (p.cs.map csRow ++ p.ws.map wsRow ++ p.ms.map msRow) := rfl
 obtain ⟨e1, e2, e3⟩ := end_parts (chk_bd p.rows)
 have he : (endRow ((chkRows p.rows 0 0).tmod 127)).size ≤ 13 := by
  have i1 := itoa_3 (n := ((chkRows p.rows 0 0).tmod 127).tdiv 100) (by omega)
  have i2 := itoa_3 (n := (((chkRows p.rows 0 0).tmod 127).tdiv 10).tmod 10) (by omega)
  have i3 := itoa_3 (n := ((chkRows p.rows 0 0).tmod 127).tmod 10) (by omega)
  have i4 : (⟨#[101, 110, 100, 32]⟩ : ByteArray).size = 4 := rfl
  simp only [endRow, ByteArray.size_append]
  omega
 rw [← size_data, text_data]
 generalize endRow ((chkRows p.rows 0 0).tmod 127) = e at *
 rw [hr, List.cons_append, List.map_cons, List.map_append, List.map_append, List.map_append]
 have ec : ∀ (x : List UInt8) (xs : List (List UInt8)), linesOf 10 (x :: xs) = x ++ [10] ++ linesOf 10 xs := fun x xs => by simp [linesOf]
 rw [ec, linesOf_app, linesOf_app, linesOf_app]
 have b0 := addNums_3 p.nums (wordsL.getD 0 default) h3.nums
 have b1 := linesOf_len 10 14 ((p.cs.map csRow).map (·.data.toList)) (fun x hx => by
  simp only [List.mem_map] at hx
  obtain ⟨r, ⟨c, hc, rfl⟩, rfl⟩ := hx
  have := addNums_3 c.nums (wordsL.getD 1 default) (h3.cs c hc)
  rw [size_data]
  simp only [csRow, Pt.nums, List.length_cons, List.length_nil] at this ⊢
  omega)
 have b2 := linesOf_len 10 21 ((p.ws.map wsRow).map (·.data.toList)) (fun x hx => by
  simp only [List.mem_map] at hx
  obtain ⟨r, ⟨c, hc, rfl⟩, rfl⟩ := hx
  have := addNums_3 c.nums (wordsL.getD 2 default) (h3.ws c hc)
  rw [size_data]
  simp only [wsRow, Wh.nums, List.length_cons, List.length_nil] at this ⊢
  omega)
 have b3 := linesOf_len 10 12 ((p.ms.map msRow).map (·.data.toList)) (fun x hx => by
  simp only [List.mem_map] at hx
  obtain ⟨r, ⟨c, hc, rfl⟩, rfl⟩ := hx
  have := addNums_3 c.nums (wordsL.getD 3 default) (h3.ms c hc)
  rw [size_data]
  simp only [msRow, Ms.nums, List.length_cons, List.length_nil] at this ⊢
  omega)
 have b4 := linesOf_len 10 13 ([e].map (·.data.toList)) (fun x hx => by
  simp only [List.map_cons, List.map_nil, List.mem_singleton] at hx
  rw [hx, size_data]; exact he)
 simp only [List.length_map] at b1 b2 b3 b4
 simp only [Piece.nums, List.length_cons, List.length_nil] at b0 b4
 simp only [List.length_append, List.length_singleton, size_data, Piece.nums]
 have : p.cs.length * (14 + 1) ≤ 6 * 15 := Nat.mul_le_mul_right _ l1.2
 have : p.ws.length * (21 + 1) ≤ 8 * 22 := Nat.mul_le_mul_right _ l2
 have : p.ms.length * (12 + 1) ≤ 10 * 13 := Nat.mul_le_mul_right _ l3
 omega
end Go.Tel
open Nat renaming reduceBEq → qA, reduceAdd → qB, reduceSub → qC, reduceEqDiff → qD, reduceLT → qE, reduceLeDiff → qF
namespace Go.Tel
open Go.Am
def Piece.printS (p : Piece) : ByteArray × Int := if p.ok then (p.text, 0) else (⟨#[]⟩, 2)
set_option maxRecDepth 10000 in
theorem PrintP_c (p : Piece) (hc : p.cs.length ≤ 1000) (hw : p.ws.length ≤ 1000) (hm : p.ms.length ≤ 1000) : Pure C F.plate_Print [p.dv] (.d (.tup [.str p.printS.1, .int .i64 p.printS.2])) [] := by
 have h1 := isPiece_c p hc hw hm
 have h2 := fun h => text_c p (three_small (ok_three h) hc hw hm)
 rw [dv_Piece] at h1
 simp only [dv_Piece] at h2
 refine pure_of_pwp_d mixed rfl ok_plate_Print ?_
 simp only [pc_plate_Print, rs_plate_Print, dv_Piece, List.not_mem_nil, RN, qA, qB, qC, qD, qE, qF]
 refine call_d rfl rfl h1 ?_
 cases hok : p.ok
 ·simp only [RN, qA, qB, qC, qD, qE, qF]
  rw [Piece.printS, hok]; rfl
 ·simp only [RN, qA, qB, qC, qD, qE, qF]
  refine call_d rfl rfl (h2 hok) ?_
  simp only [RN, qA, qB, qC, qD, qE, qF]
  rw [Piece.printS, hok]; rfl
theorem bne_self_i {a : Int} : (a != a) = false := bne_self_eq_false a
theorem cellsEq_self2 {a b : Int} : cellsEq [1, 1] [.int .i64 a, .int .i64 b] [.int .i64 a, .int .i64 b] = some true := by simp [cellsEq]
theorem cellsEq_self4 {a b c d : Int} : cellsEq [1, 1, 1, 1] [.int .i64 a, .int .i64 b, .int .i64 c, .int .i64 d] [.int .i64 a, .int .i64 b, .int .i64 c, .int .i64 d] = some true := by simp [cellsEq]
set_option maxRecDepth 10000 in
set_option maxHeartbeats 2000000 in
theorem SamePieces_c (p : Piece) (hc : p.cs.length ≤ 1000) (hw : p.ws.length ≤ 1000) (hm : p.ms.length ≤ 1000) : Pure C F.ref_SamePieces [p.dv, p.dv] (.d (.bool true)) [] := by
 have tt : (true != true) = false := rfl
 refine pure_of_pwp_d mixed rfl ok_ref_SamePieces ?_
 simp only [pc_ref_SamePieces, rs_ref_SamePieces, dv_Piece, List.not_mem_nil, bne_self_i, RN, qA, qB, qC, qD, qE, qF]
 refine pwp_range p.cs.length (fun i (_ : Unit) => ⟨[(2, .d (.cptr p.cells)), (3, .d (.cptr p.cells)), (5, .d (.int .i64 i))], ⟨[some (p.cells.map .d), some (p.cells.map .d)], [1, 0], []⟩⟩)
  (fun _ _ => True) 0 () (Nat.zero_le _) rfl trivial (fun i _ g1 _ => ?_) (fun _ _ => ?_)
 ·obtain ⟨g2, g3, g6⟩ := rng g1 (by omega)
  simp only [Piece.cells, g2, g3, g1, getD_map, Int.toNat_natCast, List.length_map, dv_Pt, List.not_mem_nil, RN, qA, qB, qC, qD, qE, qF]
  rw [ev_binA cellsEq_self2]
  simp only [tt, g6, RN, qA, qB, qC, qD, qE, qF]
  exact up_same () g1 rfl trivial (by simp) (by simp) rfl rfl
 simp only [Piece.cells, Int.lt_irrefl, List.length_map, RN, qA, qB, qC, qD, qE, qF]
 refine pwp_range p.ws.length (fun i (_ : Unit) => ⟨[(2, .d (.cptr p.cells)), (3, .d (.cptr p.cells)), (6, .d (.int .i64 i))], ⟨[some (p.cells.map .d), some (p.cells.map .d)], [1, 0], []⟩⟩)
  (fun _ _ => True) 0 () (Nat.zero_le _) rfl trivial (fun i _ g1 _ => ?_) (fun _ _ => ?_)
 ·obtain ⟨g2, g3, g6⟩ := rng g1 (by omega)
  simp only [Piece.cells, g2, g3, g1, getD_map, Int.toNat_natCast, List.length_map, dv_Wh, List.not_mem_nil, RN, qA, qB, qC, qD, qE, qF]
  rw [ev_binA cellsEq_self4]
  simp only [tt, g6, RN, qA, qB, qC, qD, qE, qF]
  exact up_same () g1 rfl trivial (by simp) (by simp) rfl rfl
 simp only [Piece.cells, Int.lt_irrefl, List.length_map, RN, qA, qB, qC, qD, qE, qF]
 refine pwp_range p.ms.length (fun i (_ : Unit) => ⟨[(2, .d (.cptr p.cells)), (3, .d (.cptr p.cells)), (7, .d (.int .i64 i))], ⟨[some (p.cells.map .d), some (p.cells.map .d)], [1, 0], []⟩⟩)
  (fun _ _ => True) 0 () (Nat.zero_le _) rfl trivial (fun i _ g1 _ => ?_) (fun _ _ => ?_)
 ·obtain ⟨g2, g3, g6⟩ := rng g1 (by omega)
  simp only [Piece.cells, g2, g3, g1, getD_map, Int.toNat_natCast, List.length_map, dv_Ms, List.not_mem_nil, RN, qA, qB, qC, qD, qE, qF]
  rw [ev_binA cellsEq_self2]
  simp only [tt, g6, RN, qA, qB, qC, qD, qE, qF]
  exact up_same () g1 rfl trivial (by simp) (by simp) rfl rfl
 simp only [Piece.cells, Int.lt_irrefl, List.length_map, RN, qA, qB, qC, qD, qE, qF]
end Go.Tel
open Nat renaming reduceBEq → qA, reduceAdd → qB, reduceSub → qC, reduceEqDiff → qD, reduceLT → qE, reduceLeDiff → qF
namespace Go.Am
end Go.Am
namespace Go.Tel
open Go.Am Go.Lib
end Go.Tel
open Nat renaming reduceBEq → qA, reduceAdd → qB, reduceSub → qC, reduceEqDiff → qD, reduceLT → qE, reduceLeDiff → qF
namespace Go.Am
end Go.Am
namespace Go.Tel
open Go.Am Go.Lib
end Go.Tel
namespace Go.Tel
open Go.Am Go.Lib
theorem mem_snoc {α : Type} {l : List α} {x : α} {P : α → Prop} (h : ∀ y ∈ l, P y) (hx : P x) : ∀ y ∈ l ++ [x], P y := by
 intro y hy
 rcases List.mem_append.1 hy with hy | hy
 ·exact h y hy
 ·rw [List.mem_singleton.1 hy]; exact hx
theorem nums2 {ns : List Int} (h : ∀ i, 0 ≤ ns.getD i default ∧ ns.getD i default ≤ 999) : ∀ n ∈ [ns.getD 0 default, ns.getD 1 default], 0 ≤ n ∧ n ≤ 999 := by
 intro n hn
 simp only [List.mem_cons, List.not_mem_nil, or_false] at hn
 rcases hn with rfl | rfl <;> exact h _
theorem nums4 {ns : List Int} (h : ∀ i, 0 ≤ ns.getD i default ∧ ns.getD i default ≤ 999) : ∀ n ∈ [ns.getD 0 default, ns.getD 1 default, ns.getD 2 default, ns.getD 3 default], 0 ≤ n ∧ n ≤ 999 := by
 intro n hn
 simp only [List.mem_cons, List.not_mem_nil, or_false] at hn
 rcases hn with rfl | rfl | rfl | rfl <;> exact h _
theorem nums5 {ns : List Int} (h : ∀ i, 0 ≤ ns.getD i default ∧ ns.getD i default ≤ 999) : ∀ n ∈ [ns.getD 0 default, ns.getD 1 default, ns.getD 2 default, ns.getD 3 default, ns.getD 4 default], 0 ≤ n ∧ n ≤ 999 := by
 intro n hn
 simp only [List.mem_cons, List.not_mem_nil, or_false] at hn
 rcases hn with rfl | rfl | rfl | rfl | rfl <;> exact h _
theorem line_three {p q : Piece} {r : ByteArray} (h : p.three) (hq : lineS p r = some q) : q.three := by
 rw [lineS] at hq
 split at hq
 ·cases ht : toldS r 1 2 with
  | none => rw [ht] at hq; cases hq
  | some ns => rw [ht] at hq; cases hq; exact { h with cs := mem_snoc h.cs (nums2 (toldS_bd ht).2) }
 ·split at hq
  ·cases ht : toldS r 2 4 with
   | none => rw [ht] at hq; cases hq
   | some ns => rw [ht] at hq; cases hq; exact { h with ws := mem_snoc h.ws (nums4 (toldS_bd ht).2) }
  ·cases ht : toldS r 3 2 with
   | none => rw [ht] at hq; cases hq
   | some ns => rw [ht] at hq; cases hq; exact { h with ms := mem_snoc h.ms (nums2 (toldS_bd ht).2) }
theorem lines_three : ∀ {l : List ByteArray} {p q : Piece}, p.three → linesS l p = some q → q.three
 | [], p, q, h, hq => by rw [linesS] at hq; cases hq; exact h
 | r :: l, p, q, h, hq => by
  rw [linesS] at hq
  cases hr : lineS p r with
  | none => rw [hr] at hq; cases hq
  | some p' => rw [hr] at hq; exact lines_three (line_three h hr) hq
theorem parsed_three {s : ByteArray} {p : Piece} (h : parsedS s = some p) : p.three ∧ p.text = s := by
 rw [parsedS] at h
 split at h
 ·cases ht : toldS ((splitS s 10).getD 0 default) 0 5 with
  | none => rw [ht] at h; cases h
  | some ns =>
   rw [ht] at h
   simp only at h
   cases hl : linesS (((splitS s 10).take ((splitS s 10).length - 2)).drop 1) ⟨ns.getD 0 default, ns.getD 1 default, ns.getD 2 default, ns.getD 3 default, ns.getD 4 default, [], [], []⟩ with
   | none => rw [hl] at h; cases h
   | some q =>
    rw [hl] at h
    simp only at h
    split at h
    ·rename_i he
     cases h
     refine ⟨lines_three ?_ hl, bext he⟩
     exact ⟨nums5 (toldS_bd ht).2, by simp, by simp, by simp⟩
    ·cases h
 ·cases h
end Go.Tel
namespace Go.Tel
open Go.Am Go.Lib
theorem set_lines (c x : UInt8) : ∀ (A : List (List UInt8)) (a : Nat), a < (linesOf c A).length → (linesOf c A).getD a 0 ≠ c →
  ∃ i k, i < A.length ∧ k < (A.getD i []).length ∧ (linesOf c A).set a x = linesOf c (A.set i ((A.getD i []).set k x)) ∧ (linesOf c A).getD a 0 = (A.getD i []).getD k 0
 | [], a, h, _ => by simp [linesOf] at h
 | y :: ys, a, h, hc => by
  have e : ∀ (y : List UInt8) (ys : List (List UInt8)), linesOf c (y :: ys) = y ++ c :: linesOf c ys := fun y ys => by simp [linesOf]
  rw [e] at h hc ⊢
  by_cases h1 : a < y.length
  ·refine ⟨0, a, by simp, by simpa using h1, ?_, ?_⟩
   ·rw [List.set_append_left _ _ h1]
    simp [e]
   ·simp only [List.getD_eq_getElem?_getD]
    rw [List.getElem?_append_left h1]; rfl
  ·obtain ⟨b, rfl⟩ : ∃ b, a = y.length + b := ⟨a - y.length, by omega⟩
   cases b with
   | zero => exfalso; apply hc; simp [List.getD_eq_getElem?_getD]
   | succ b =>
    have h2 : b < (linesOf c ys).length := by simp only [List.length_append, List.length_cons] at h; omega
    have hg : (y ++ c :: linesOf c ys).getD (y.length + (b + 1)) 0 = (linesOf c ys).getD b 0 := by
     simp only [List.getD_eq_getElem?_getD]
     rw [List.getElem?_append_right (by omega), Nat.add_sub_cancel_left]; rfl
    rw [hg] at hc ⊢
    obtain ⟨i, k, i1, i2, i3, i4⟩ := set_lines c x ys b h2 hc
    refine ⟨i + 1, k, by simpa using i1, by simpa using i2, ?_, by simpa using i4⟩
    rw [List.set_append_right _ _ (by omega), Nat.add_sub_cancel_left, List.set_cons_succ, i3]
    simp [e]
theorem lines_inj {c : UInt8} {xs ys : List (List UInt8)} (hx : ∀ x ∈ xs, c ∉ x) (hy : ∀ y ∈ ys, c ∉ y) (h : linesOf c xs = linesOf c ys) : xs = ys := by
 have h1 := spl_lines hx
 rw [h, spl_lines hy] at h1
 exact (List.append_cancel_right h1).symm
def sumL : List UInt8 → Nat → Int
 | [], _ => 0
 | b :: l, k => (b.toNat : Int) * ((k : Int) + 1) + sumL l (k + 1)
def sumR : List (List UInt8) → Nat → Int
 | [], _ => 0
 | x :: xs, i => sumL x 0 * ((i : Int) + 1) + sumR xs (i + 1)
theorem sumL_snoc : ∀ (l : List UInt8) (b : UInt8) (j : Nat), sumL (l ++ [b]) j = sumL l j + (b.toNat : Int) * ((j : Int) + l.length + 1)
 | [], b, j => by simp [sumL]
 | a :: l, b, j => by
  have h : ((j + 1 : Nat) : Int) = (j : Int) + 1 := by omega
  rw [List.cons_append, sumL, sumL_snoc l b (j + 1), sumL, List.length_cons, h]
  have h2 : ((l.length + 1 : Nat) : Int) = (l.length : Int) + 1 := by omega
  rw [h2, show (j : Int) + 1 + l.length + 1 = (j : Int) + (l.length + 1) + 1 by omega]
  omega
theorem sumL_set : ∀ (l : List UInt8) (k j : Nat) (x : UInt8), k < l.length → sumL (l.set k x) j = sumL l j + ((x.toNat : Int) - ((l.getD k 0).toNat : Int)) * ((j : Int) + k + 1)
 | [], k, j, x, h => by simp at h
 | a :: l, 0, j, x, h => by
  simp only [List.set_cons_zero, sumL, List.getD_cons_zero]
  have : ((0 : Nat) : Int) = 0 := rfl
  rw [this, Int.add_zero, Int.sub_mul]
  omega
 | a :: l, k + 1, j, x, h => by
  have hh : ((j + 1 : Nat) : Int) = (j : Int) + 1 := by omega
  have h2 : ((k + 1 : Nat) : Int) = (k : Int) + 1 := by omega
  simp only [List.set_cons_succ, sumL, List.getD_cons_succ]
  rw [sumL_set l k (j + 1) x (by simpa using h), hh, h2, show (j : Int) + 1 + k + 1 = (j : Int) + (k + 1) + 1 by omega]
  omega
theorem sumR_set : ∀ (R : List (List UInt8)) (i j : Nat) (y : List UInt8), i < R.length → sumR (R.set i y) j = sumR R j + (sumL y 0 - sumL (R.getD i []) 0) * ((j : Int) + i + 1)
 | [], i, j, y, h => by simp at h
 | a :: l, 0, j, y, h => by
  simp only [List.set_cons_zero, sumR, List.getD_cons_zero]
  have : ((0 : Nat) : Int) = 0 := rfl
  rw [this, Int.add_zero, Int.sub_mul]
  omega
 | a :: l, i + 1, j, y, h => by
  have hh : ((j + 1 : Nat) : Int) = (j : Int) + 1 := by omega
  have h2 : ((i + 1 : Nat) : Int) = (i : Int) + 1 := by omega
  simp only [List.set_cons_succ, sumR, List.getD_cons_succ]
  rw [sumR_set l i (j + 1) y (by simpa using h), hh, h2, show (j : Int) + 1 + i + 1 = (j : Int) + (i + 1) + 1 by omega]
  omega
theorem chkK_sum (r : ByteArray) (i : Nat) (c : Int) : ∀ k, k ≤ r.size → chkK r i k c = c + sumL (r.data.toList.take k) 0 * ((i : Int) + 1)
 | 0, _ => by simp [chkK, sumL]
 | k + 1, h => by
  have hs := size_data r
  have hk : k < r.data.toList.length := by omega
  have hg : r.data.getD k 0 = r.data.toList[k] := by rw [getD_list, List.getD_eq_getElem?_getD, List.getElem?_eq_getElem hk]; rfl
  rw [chkK, chkK_sum r i c k (by omega), List.take_succ_eq_append_getElem hk, sumL_snoc, hg, List.length_take, Nat.min_eq_left (by omega)]
  have : ((0 : Nat) : Int) = 0 := rfl
  rw [this, Int.zero_add, Int.add_mul]
  omega
theorem chkRows_sum : ∀ (l : List ByteArray) (i : Nat) (c : Int), chkRows l i c = c + sumR (l.map (·.data.toList)) i
 | [], i, c => by simp [chkRows, sumR]
 | r :: l, i, c => by
  have hs := size_data r
  rw [chkRows, chkRows_sum l (i + 1), chkK_sum r i c r.size (Nat.le_refl _), List.take_of_length_le (by omega), List.map_cons, sumR]
  omega
theorem cop127 : ∀ x < 127, 0 < x → Nat.gcd 127 x = 1 := by decide
theorem no127 {a b c : Nat} (ha : 0 < a ∧ a < 127) (hb : 0 < b ∧ b < 127) (hc : 0 < c ∧ c < 127) : ¬ 127 ∣ a * b * c := by
 intro h
 have h1 : 127 ∣ a * b := Nat.Coprime.dvd_of_dvd_mul_right (cop127 c hc.2 hc.1) h
 have h2 : 127 ∣ a := Nat.Coprime.dvd_of_dvd_mul_right (cop127 b hb.2 hb.1) h1
 have := Nat.le_of_dvd ha.1 h2
 omega
theorem tmod_dvd {a b : Int} (h0 : 0 ≤ a) (h1 : 0 ≤ b) (h : a.tmod 127 = b.tmod 127) : (127 : Int) ∣ a - b := by
 obtain ⟨m, rfl⟩ := Int.eq_ofNat_of_zero_le h0
 obtain ⟨n, rfl⟩ := Int.eq_ofNat_of_zero_le h1
 have e1 : ((m : Nat) : Int).tmod 127 = ((m % 127 : Nat) : Int) := (Int.ofNat_tmod m 127).symm
 have e2 : ((n : Nat) : Int).tmod 127 = ((n % 127 : Nat) : Int) := (Int.ofNat_tmod n 127).symm
 rw [e1, e2] at h
 omega
theorem itoa_one {n : Int} (h : 0 ≤ n ∧ n ≤ 9) : (itoaB n).data.toList = [UInt8.ofNat (48 + n.toNat)] := by
 obtain ⟨m, rfl⟩ := Int.eq_ofNat_of_zero_le h.1
 rw [itoa_n, dec1 (by omega), Int.toNat_natCast]
theorem dig_inj {m n : Int} (hm : 0 ≤ m ∧ m ≤ 9) (hn : 0 ≤ n ∧ n ≤ 9) (h : UInt8.ofNat (48 + m.toNat) = UInt8.ofNat (48 + n.toNat)) : m = n := by
 have h1 := congrArg UInt8.toNat h
 rw [dig_nat (by omega), dig_nat (by omega)] at h1
 omega
theorem end_inj {c d : Int} (hc : 0 ≤ c ∧ c < 127) (hd : 0 ≤ d ∧ d < 127) (h : (endRow c).data.toList = (endRow d).data.toList) : c = d := by
 obtain ⟨a1, a2, a3⟩ := end_parts hc
 obtain ⟨b1, b2, b3⟩ := end_parts hd
 simp only [endRow, app_data, itoa_one a1, itoa_one a2, itoa_one a3, itoa_one b1, itoa_one b2, itoa_one b3] at h
 simp only [List.cons_append, List.nil_append, List.cons.injEq, and_true, true_and] at h
 obtain ⟨h1, h2, h3⟩ := h
 have h1 := dig_inj a1 b1 h1
 have h2 := dig_inj a2 b2 h2
 have h3 := dig_inj a3 b3 h3
 obtain ⟨m, rfl⟩ := Int.eq_ofNat_of_zero_le hc.1
 obtain ⟨n, rfl⟩ := Int.eq_ofNat_of_zero_le hd.1
 have e : ∀ k : Nat, ((k : Nat) : Int).tdiv 100 = ((k / 100 : Nat) : Int) ∧ (((k : Nat) : Int).tdiv 10).tmod 10 = ((k / 10 % 10 : Nat) : Int) ∧ ((k : Nat) : Int).tmod 10 = ((k % 10 : Nat) : Int) := by
  intro k
  have t2 : ((k : Nat) : Int).tdiv 10 = ((k / 10 : Nat) : Int) := (Int.ofNat_tdiv k 10).symm
  rw [t2]
  exact ⟨(Int.ofNat_tdiv k 100).symm, (Int.ofNat_tmod _ 10).symm, (Int.ofNat_tmod k 10).symm⟩
 obtain ⟨m1, m2, m3⟩ := e m
 obtain ⟨n1, n2, n3⟩ := e n
 rw [m1, n1] at h1
 rw [m2, n2] at h2
 rw [m3, n3] at h3
 omega
theorem row_size {p : Piece} (h : p.three) : ∀ r ∈ p.rows, r.size ≤ 25 := by
 intro r hr
 have w0 : (wordsL.getD 0 default).size = 5 := rfl
 have w1 : (wordsL.getD 1 default).size = 6 := rfl
 have w2 : (wordsL.getD 2 default).size = 5 := rfl
 have w3 : (wordsL.getD 3 default).size = 4 := rfl
 simp only [Piece.rows, List.mem_cons, List.mem_append, List.mem_map] at hr
 rcases hr with rfl | (⟨c, hc, rfl⟩ | ⟨c, hc, rfl⟩) | ⟨c, hc, rfl⟩
 ·have := addNums_3 p.nums (wordsL.getD 0 default) h.nums
  simp only [Piece.nums, List.length_cons, List.length_nil] at this ⊢
  omega
 ·have := addNums_3 c.nums (wordsL.getD 1 default) (h.cs c hc)
  simp only [csRow, Pt.nums, List.length_cons, List.length_nil] at this ⊢
  omega
 ·have := addNums_3 c.nums (wordsL.getD 2 default) (h.ws c hc)
  simp only [wsRow, Wh.nums, List.length_cons, List.length_nil] at this ⊢
  omega
 ·have := addNums_3 c.nums (wordsL.getD 3 default) (h.ms c hc)
  simp only [msRow, Ms.nums, List.length_cons, List.length_nil] at this ⊢
  omega
theorem rows_len {p : Piece} (h : p.ok = true) : p.rows.length ≤ 25 := by
 obtain ⟨l1, l2, l3⟩ := Piece.ok_lens h
 simp only [Piece.rows, List.length_cons, List.length_append, List.length_map]
 omega
def Piece.lines (p : Piece) : List (List UInt8) := p.rows.map (·.data.toList) ++ [(endRow ((chkRows p.rows 0 0).tmod 127)).data.toList]
theorem text_lines (p : Piece) : p.text.data.toList = linesOf 10 p.lines := by rw [text_data, List.map_append]; rfl
theorem lines_nl {p : Piece} (h : p.three) : ∀ x ∈ p.lines, (10 : UInt8) ∉ x := by
 intro x hx
 rcases List.mem_append.1 hx with hx | hx
 ·obtain ⟨r, hr, rfl⟩ := List.mem_map.1 hx
  exact rows_nl h r hr
 ·rw [List.mem_singleton.1 hx]; exact end_nl (chk_bd _)
theorem mem_set_ne {l : List UInt8} {k : Nat} {x c : UInt8} (h : c ∉ l) (hx : c ≠ x) : c ∉ l.set k x := by
 intro hh
 rcases List.mem_or_eq_of_mem_set hh with hh | rfl
 ·exact h hh
 ·exact hx rfl
theorem getD_mem2 {l : List (List UInt8)} {i : Nat} (h : i < l.length) : l.getD i [] ∈ l := by
 rw [List.getD_eq_getElem?_getD, List.getElem?_eq_getElem h]; exact List.getElem_mem h
theorem one_digit {p q : Piece} (hp : p.ok = true) (hq : q.three) {a : Nat} {x : UInt8} (ha : a < p.text.data.toList.length)
  (h1 : 48 ≤ (p.text.data.toList.getD a 0).toNat ∧ (p.text.data.toList.getD a 0).toNat ≤ 57) (h2 : 48 ≤ x.toNat ∧ x.toNat ≤ 57) (hne : p.text.data.toList.getD a 0 ≠ x)
  (he : q.text.data.toList = p.text.data.toList.set a x) : False := by
 have h3 := ok_three hp
 rw [text_lines] at ha h1 hne
 rw [text_lines, text_lines] at he
 have hc : (linesOf 10 p.lines).getD a 0 ≠ 10 := fun hh => by rw [hh] at h1; exact absurd h1.1 (by decide)
 have hx : (10 : UInt8) ≠ x := fun hh => by rw [← hh] at h2; exact absurd h2.1 (by decide)
 obtain ⟨i, k, i1, i2, i3, i4⟩ := set_lines 10 x p.lines a ha hc
 rw [i3] at he
 rw [i4] at hne h1
 have hyn : ∀ y ∈ p.lines.set i ((p.lines.getD i []).set k x), (10 : UInt8) ∉ y := by
  intro y hy
  rcases List.mem_or_eq_of_mem_set hy with hy | rfl
  ·exact lines_nl h3 y hy
  ·exact mem_set_ne (lines_nl h3 _ (getD_mem2 i1)) hx
 have hl := lines_inj (lines_nl hq) hyn he
 have hlen : p.lines.length = p.rows.length + 1 := by simp [Piece.lines]
 obtain ⟨b1, b2⟩ := chk_bd p.rows
 obtain ⟨d1, d2⟩ := chk_bd q.rows
 by_cases hi : i < p.rows.length
 ·have hi2 : i < (p.rows.map (·.data.toList)).length := by simpa using hi
  have hgd : p.lines.getD i [] = (p.rows.map (·.data.toList)).getD i [] := by
   simp only [Piece.lines, List.getD_eq_getElem?_getD]
   rw [List.getElem?_append_left hi2]
  rw [hgd] at hl i2 hne h1
  rw [Piece.lines, Piece.lines, List.set_append_left _ _ hi2] at hl
  obtain ⟨hr, hend⟩ := List.append_inj' hl rfl
  have hcc := end_inj ⟨d1, d2⟩ ⟨b1, b2⟩ (List.cons.inj hend).1
  have hd := tmod_dvd (chkRows_ge q.rows 0 0 (Int.le_refl _)) (chkRows_ge p.rows 0 0 (Int.le_refl _)) hcc
  rw [chkRows_sum, chkRows_sum, hr, sumR_set _ _ _ _ hi2, sumL_set _ _ _ _ i2] at hd
  have hk : k < 25 := by
   have hm := getD_mem2 hi2
   obtain ⟨r, hr1, hr2⟩ := List.mem_map.1 hm
   have := row_size h3 r hr1
   rw [← hr2, size_data] at i2
   omega
  have hi3 := rows_len hp
  generalize ((p.rows.map (·.data.toList)).getD i []).getD k 0 = o at *
  have hox : o.toNat ≠ x.toNat := fun hh => hne (UInt8.toNat_inj.1 hh)
  have e0 : ((0 : Nat) : Int) = 0 := rfl
  have hdd : (127 : Int) ∣ ((x.toNat : Int) - (o.toNat : Int)) * ((k : Int) + 1) * ((i : Int) + 1) := by
   have e : ∀ A B C D : Int, 0 + (A + (B + C * (((0 : Nat) : Int) + k + 1) - B) * (((0 : Nat) : Int) + i + 1)) - (0 + A) = C * ((k : Int) + 1) * ((i : Int) + 1) := by
    intro A B C D
    simp only [e0, Int.zero_add]
    rw [show B + C * ((k : Int) + 1) - B = C * ((k : Int) + 1) by omega]
    omega
   rw [e _ _ _ 0] at hd
   exact hd
  have hnat : 127 ∣ (((x.toNat : Int) - (o.toNat : Int)) * ((k : Int) + 1) * ((i : Int) + 1)).natAbs := Int.natAbs_dvd_natAbs.2 hdd
  rw [Int.natAbs_mul, Int.natAbs_mul] at hnat
  exact no127 (a := ((x.toNat : Int) - (o.toNat : Int)).natAbs) (b := ((k : Int) + 1).natAbs) (c := ((i : Int) + 1).natAbs) ⟨by omega, by omega⟩ ⟨by omega, by omega⟩ ⟨by omega, by omega⟩ hnat
 ·have hie : i = p.rows.length := by omega
  have hil : i = (p.rows.map (·.data.toList)).length := by simpa using hie
  rw [Piece.lines, Piece.lines, List.set_append_right _ _ (by omega), hil, Nat.sub_self, List.set_cons_zero] at hl
  obtain ⟨hr, hend⟩ := List.append_inj' hl rfl
  have hrr := map_data_inj hr
  have hg : (p.rows.map (·.data.toList) ++ [(endRow ((chkRows p.rows 0 0).tmod 127)).data.toList]).getD (p.rows.map (·.data.toList)).length [] = (endRow ((chkRows p.rows 0 0).tmod 127)).data.toList := by
   simp only [List.getD_eq_getElem?_getD]
   rw [List.getElem?_append_right (Nat.le_refl _), Nat.sub_self]; rfl
  have hg2 : p.lines.getD i [] = (endRow ((chkRows p.rows 0 0).tmod 127)).data.toList := by rw [hil]; exact hg
  rw [hrr, hg] at hend
  have hend := (List.cons.inj hend).1
  rw [hg2] at hne i2
  have := congrArg (fun l => l.getD k 0) hend
  simp only [List.getD_eq_getElem?_getD] at this hne
  rw [List.getElem?_set_self i2] at this
  exact hne this
theorem spoilt_none {p : Piece} (hp : p.ok = true) {a : Nat} {x : UInt8} (ha : a < p.text.data.toList.length)
  (h1 : 48 ≤ (p.text.data.toList.getD a 0).toNat ∧ (p.text.data.toList.getD a 0).toNat ≤ 57) (h2 : 48 ≤ x.toNat ∧ x.toNat ≤ 57) (hne : p.text.data.toList.getD a 0 ≠ x) :
  readS ⟨(p.text.data.toList.set a x).toArray⟩ = (zeroP, 4) := by
 have hsz := text_size hp
 have hz : (⟨(p.text.data.toList.set a x).toArray⟩ : ByteArray).size ≤ 500 := by
  rw [← size_data, List.toList_toArray, List.length_set, size_data]; exact hsz
 rw [readS, if_neg (by omega)]
 cases hps : parsedS ⟨(p.text.data.toList.set a x).toArray⟩ with
 | none => rfl
 | some q =>
  exfalso
  obtain ⟨h3, h4⟩ := parsed_three hps
  exact one_digit hp h3 ha h1 h2 hne (by rw [h4])
end Go.Tel
open Nat renaming reduceBEq → qA, reduceAdd → qB, reduceSub → qC, reduceEqDiff → qD, reduceLT → qE, reduceLeDiff → qF
namespace Go.Am
theorem ev_s2b {C : Ctx} {base : Nat} {M : Mem} {K : PV → Mem → Prop} {KP : DV → Mem → Prop} {s : ByteArray} : runOp C base .s2b [.d (.str s)] M K KP = K (.tsl M.arrs.length 0 0) { M with arrs := M.arrs ++ [some ⟨1, s.data.toList.map fun b => .int .u8 b.toNat, 0, 1⟩] } := propext ⟨id, id⟩
theorem bytesOf_map : ∀ l : List UInt8, bytesOf (l.map fun b => .int .u8 b.toNat) = some l
 | [] => rfl
 | b :: l => by
  have e : UInt8.ofNat ((b.toNat : Nat) : Int).toNat = b := by rw [Int.toNat_natCast]; simp
  rw [List.map_cons, bytesOf, bytesOf_map l]
  simp [e]
theorem getD_bytes {l : List UInt8} {n : Nat} (h : n < l.length) : (l.map fun b => DV.int .u8 b.toNat).getD n default = .int .u8 (l.getD n 0).toNat := by
 simp only [List.getD_eq_getElem?_getD, List.getElem?_map, List.getElem?_eq_getElem h]; rfl
theorem store_byte {l : List UInt8} {n : Nat} {d : Int} {bs : List (Option (List PV))} {fz : List Nat} {K : Mem → Prop} (h : n < l.length) :
  runStore 1 (.eptr 0 0 n 0) (.d (.int .u8 d)) ⟨bs, fz, [some ⟨1, l.map fun b => DV.int .u8 b.toNat, 0, 1⟩]⟩ K = K ⟨bs, fz, [some ⟨1, (l.map fun b => DV.int .u8 b.toNat).set n (.int .u8 d), 0, 1⟩]⟩ := by
 have hg := getD_bytes h
 have hc : ∀ x : Int, (DV.int .u8 x).cells = [DV.int .u8 x] := fun _ => rfl
 have hs : ∀ x y : Int, setCells (.int .u8 x) 0 [DV.int .u8 y] = .int .u8 y := fun _ _ => rfl
 have ha : allD (PV.cells (.d (.int .u8 d))) = some [DV.int .u8 d] := rfl
 have ho : DV.one (.int .u8 d) = true := rfl
 simp only [runStore, row_m, ha, List.getElem?_cons_zero, if_true, hg, hs, hc]
 simp [ho]
theorem ev_b2s_row {C : Ctx} {base st : Nat} {l : List UInt8} {bs : List (Option (List PV))} {fz : List Nat} {K : PV → Mem → Prop} {KP : DV → Mem → Prop} :
  runOp C base .b2s [.tsl 0 0 0] ⟨bs, fz, [some ⟨1, l.map fun b => DV.int .u8 b.toNat, 0, st⟩]⟩ K KP = K (.d (.str ⟨l.toArray⟩)) ⟨bs, fz, [some ⟨1, l.map fun b => DV.int .u8 b.toNat, 0, st⟩]⟩ := by
 simp only [runOp, appd, row_m, List.getElem?_cons_zero, if_true, Option.map_some, List.drop_zero, bytesOf_map]
theorem set_bytes {l : List UInt8} {n : Nat} {x : UInt8} {d : Int} (h : (x.toNat : Int) = d) : (l.map fun b => DV.int .u8 b.toNat).set n (.int .u8 d) = (l.set n x).map fun b => DV.int .u8 b.toNat := by
 rw [List.map_set, h]
end Go.Am
namespace Go.Tel
open Go.Am Go.Lib
set_option maxRecDepth 10000 in
set_option maxHeartbeats 4000000 in
theorem PlateSpoilt_c (hkn : KnownC) (p : Piece) (a d : Int) : Pure Go.Tel.C F.law_PlateSpoilt [p.dv, .int .i64 a, .int .i64 d] (.d (.bool true)) [] := by
 have hkn : Pure C F.law_known [] (.d (.bool true)) [] := hkn
 have y4 : ((4 : Int) == 4) = true := rfl
 have n0 : ((0 : Int) != 0) = false := rfl
 have hz := SamePieces_c zeroP (by decide) (by decide) (by decide)
 have hsh := short_c p
 rw [dv_Piece] at hsh hz
 refine pure_of_pwp_d mixed rfl ok_law_PlateSpoilt ?_
 simp only [pc_law_PlateSpoilt, rs_law_PlateSpoilt, dv_Piece, List.not_mem_nil, RN, qA, qB, qC, qD, qE, qF]
 refine call_d rfl rfl hsh ?_
 cases hs : p.short
 ·simp only [RN, qA, qB, qC, qD, qE, qF]
  refine call_d rfl rfl hkn ?_
  simp only [RN, qA, qB, qC, qD, qE, qF]
 simp only [Piece.short, Bool.and_eq_true, decide_eq_true_eq] at hs
 obtain ⟨⟨s1, s2⟩, s3⟩ := hs
 have h1 := PrintP_c p (by omega) (by omega) (by omega)
 have h2 := rPiece_c p (by omega) (by omega) (by omega)
 rw [dv_Piece] at h1 h2
 simp only [RN, qA, qB, qC, qD, qE, qF]
 refine call_d rfl rfl h2 ?_
 cases hok : p.ok
 ·simp only [RN, qA, qB, qC, qD, qE, qF]
  refine call_d rfl rfl hkn ?_
  simp only [RN, qA, qB, qC, qD, qE, qF]
 by_cases d0 : d < 0
 ·simp only [d0, RN, qA, qB, qC, qD, qE, qF]
  refine call_d rfl rfl hkn ?_
  simp only [RN, qA, qB, qC, qD, qE, qF]
 by_cases d9 : d > 9
 ·simp only [d0, d9, RN, qA, qB, qC, qD, qE, qF]
  refine call_d rfl rfl hkn ?_
  simp only [RN, qA, qB, qC, qD, qE, qF]
 have e : p.printS = (p.text, 0) := by rw [Piece.printS, hok]; rfl
 rw [e] at h1
 simp only [d0, d9, RN, qA, qB, qC, qD, qE, qF]
 refine call_d rfl rfl h1 ?_
 have hsz := text_size hok
 have hsp := @spoilt_none p hok
 have hdl : p.text.data.toList.length = p.text.size := size_data _
 have hgl := getD_list p.text
 generalize p.text = s at *
 by_cases a0 : a < 0
 ·simp only [n0, a0, RN, qA, qB, qC, qD, qE, qF]
  refine call_d rfl rfl hkn ?_
  simp only [RN, qA, qB, qC, qD, qE, qF]
 obtain ⟨n, rfl⟩ := Int.eq_ofNat_of_zero_le (show 0 ≤ a by omega)
 by_cases a1 : (n : Int) ≥ s.size
 ·simp only [n0, a0, a1, RN, qA, qB, qC, qD, qE, qF]
  refine call_d rfl rfl hkn ?_
  simp only [RN, qA, qB, qC, qD, qE, qF]
 have g3 : (0 : Int) ≤ n := by omega
 have g1 : n < s.size := by omega
 have hgn := hgl n
 have hbb : (s.data.getD n 0).toNat < 256 := UInt8.toNat_lt _
 have hspn := @hsp n
 rw [← hgn] at hspn
 have hgm := getD_bytes (l := s.data.toList) (n := n) (by omega)
 rw [← hgn] at hgm
 generalize hb : s.data.getD n 0 = b at *
 by_cases c1 : (b.toNat : Int) < 48
 ·simp only [n0, a0, a1, g3, g1, Int.toNat_natCast, hb, c1, RN, qA, qB, qC, qD, qE, qF]
  refine call_d rfl rfl hkn ?_
  simp only [RN, qA, qB, qC, qD, qE, qF]
 by_cases c2 : (b.toNat : Int) > 57
 ·simp only [n0, a0, a1, g3, g1, Int.toNat_natCast, hb, c1, c2, RN, qA, qB, qC, qD, qE, qF]
  refine call_d rfl rfl hkn ?_
  simp only [RN, qA, qB, qC, qD, qE, qF]
 obtain ⟨m, rfl⟩ := Int.eq_ofNat_of_zero_le (show 0 ≤ d by omega)
 have w1 : IntKind.u8.wrap ((b.toNat : Int) - 48) = (b.toNat : Int) - 48 := by
  obtain ⟨j, hj⟩ : ∃ j : Nat, (b.toNat : Int) - 48 = j := Int.eq_ofNat_of_zero_le (by omega)
  have hj2 : j < 10 := by omega
  rw [hj]
  exact (by decide : ∀ j < 10, IntKind.u8.wrap ((j : Nat) : Int) = j) j hj2
 have w2 : IntKind.i64.wrap ((b.toNat : Int) - 48) = (b.toNat : Int) - 48 := w64_in (by omega)
 by_cases c3 : (b.toNat : Int) - 48 = m
 ·have e3 : (((b.toNat : Int) - 48) == (m : Int)) = true := beq_iff_eq.2 c3
  simp only [n0, a0, a1, g3, g1, Int.toNat_natCast, hb, c1, c2, w1, w2, e3, RN, qA, qB, qC, qD, qE, qF]
  refine call_d rfl rfl hkn ?_
  simp only [RN, qA, qB, qC, qD, qE, qF]
 have e3 : (((b.toNat : Int) - 48) == (m : Int)) = false := beq_eq_false_iff_ne.2 c3
 have w3 : IntKind.i64.wrap (48 + (m : Int)) = 48 + (m : Int) := w64_in (by omega)
 have w4 : IntKind.u8.wrap (48 + (m : Int)) = 48 + (m : Int) := by
  have hm : m < 10 := by omega
  exact (by decide : ∀ m < 10, IntKind.u8.wrap (48 + ((m : Nat) : Int)) = 48 + (m : Int)) m hm
 have hx : (UInt8.ofNat (48 + m)).toNat = 48 + m := dig_nat (by omega)
 have hxd : ((UInt8.ofNat (48 + m)).toNat : Int) = 48 + (m : Int) := by rw [hx]; omega
 have hsl : n < (s.data.toList.map fun b => DV.int .u8 b.toNat).length := by rw [List.length_map]; omega
 have hread := hspn (x := UInt8.ofNat (48 + m)) (by omega) ⟨by omega, by omega⟩ ⟨by omega, by omega⟩ (fun hh => by rw [hh] at c3; omega)
 simp only [n0, a0, a1, g3, g1, Int.toNat_natCast, hb, c1, c2, w1, w2, w3, w4, e3, ev_s2b, hsl, List.length_map, RN, qA, qB, qC, qD, qE, qF]
 refine ⟨by omega, ?_⟩
 rw [store_byte (by omega), set_bytes hxd]
 generalize s.data.toList.set n (UInt8.ofNat (48 + m)) = l at *
 have hrd := Read_c ⟨l.toArray⟩
 rw [hread] at hrd
 simp only [ev_b2s_row, RN, qA, qB, qC, qD, qE, qF]
 refine call_d rfl rfl hrd ?_
 simp only [dv_Piece, y4, RN, qA, qB, qC, qD, qE, qF]
 refine call_d rfl rfl hz ?_
 simp only [RN, qA, qB, qC, qD, qE, qF]
 refine call_d rfl rfl hkn ?_
 simp only [RN, qA, qB, qC, qD, qE, qF]
end Go.Tel
