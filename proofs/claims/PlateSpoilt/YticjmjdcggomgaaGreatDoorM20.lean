/-
  Part 20 of the proof of a law of plates: an abstract machine over the model, contracts of functions, plain laws.
  Conditions: none.
-/
import Derived.Test.YticjmjdcggomgaaGreatDoorM19
set_option linter.all false
open Nat renaming reduceBEq → qA, reduceAdd → qB, reduceSub → qC, reduceEqDiff → qD, reduceLT → qE, reduceLeDiff → qF
namespace Go.Tel
open Go.Am
def gcds : List Int → Nat → Nat
 | [], g => g
 | n :: xs, g => gcds xs (Nat.gcd g n.natAbs)
set_option maxRecDepth 10000 in
theorem divisor_c (xs : List Int) (hl : xs.length ≤ 1000000) (hx : ∀ x ∈ xs, x.natAbs ≤ 4611686018427387904) : Pure C F.plate_divisor [.slice false (xs.map intDV)] (.d (.int .i64 (gcds xs 0))) [] := by
 refine pure_of_pwp_d mixed rfl ok_plate_divisor ?_
 simp only [pc_plate_divisor, rs_plate_divisor, List.length_map, RN, qA, qB, qC, qD, qE, qF]
 refine pwp_range xs.length (fun i (g : Nat) => ⟨[(3, .d (.int .i64 g)), (8, .d (.slice false (xs.map intDV))), (9, .d (.int .i64 xs.length)), (10, .d (.int .i64 i))], ⟨[], [], []⟩⟩)
  (fun i g => gcds xs 0 = gcds (xs.drop i) g) 0 0 (Nat.zero_le _) rfl rfl (fun i g h1 hix => ?_) (fun g hix => ?_)
 ·obtain ⟨h2, h3, h6⟩ := rng h1 hl
  have hxi := hx _ (getD_mem h1)
  rw [drop_cons h1, gcds] at hix
  have hn : IntKind.i64.wrap (0 - xs.getD i default) = - xs.getD i default := by rw [w64_in (by omega)]; omega
  have hm : (if - xs.getD i default > xs.getD i default then - xs.getD i default else xs.getD i default) = ((xs.getD i default).natAbs : Int) := by split <;> omega
  simp only [h2, h3, h1, getD_map, Int.toNat_natCast, List.length_map, dv_int, hn, hm, RN, qA, qB, qC, qD, qE, qF]
  refine pwp_while (fun (q : Nat × Nat) => ⟨[(6, .d (.int .i64 q.1)), (7, .d (.int .i64 q.2)), (8, .d (.slice false (xs.map intDV))), (9, .d (.int .i64 xs.length)), (10, .d (.int .i64 i))], ⟨[], [], []⟩⟩)
   (fun q => Nat.gcd q.1 q.2 = Nat.gcd g (xs.getD i default).natAbs) (fun q => q.2) (g, (xs.getD i default).natAbs) (by simp only [dv_int]) rfl (fun q hq => ?_)
  by_cases hz : q.2 = 0
  ·have hb : ¬ ((q.2 : Int) > 0) := by omega
   simp only [hb, h6, RN, qA, qB, qC, qD, qE, qF]
   exact up_same q.1 h1 rfl (by rw [hz, Nat.gcd_zero_right] at hq; rw [hq]; exact hix) (by simp) (by simp) rfl rfl
  ·have hb : ((q.2 : Int) > 0) := by omega
   have hne : ((q.2 : Int) ≠ 0) := by omega
   have ht : (q.1 : Int).tmod (q.2 : Int) = ((q.1 % q.2 : Nat) : Int) := (Int.ofNat_tmod q.1 q.2).symm
   simp only [hb, hne, ht, RN, qA, qB, qC, qD, qE, qF]
   exact wh_same (q.2, q.1 % q.2) (Nat.mod_lt _ (by omega)) rfl (by simp only; rw [Nat.gcd_comm, ← Nat.gcd_rec, Nat.gcd_comm]; exact hq) (by simp) (by simp) rfl rfl
 ·rw [List.drop_length, gcds] at hix
  simp only [Int.lt_irrefl, hix, RN, qA, qB, qC, qD, qE, qF]
theorem ev_mkSl2 {C : Ctx} {base : Nat} {M : Mem} {K : PV → Mem → Prop} {KP : DV → Mem → Prop} {z1 z2 : DV} {k k' : IntKind} {a b : Int} : runOp C base (.mkSl 1 [z1, z2] [0, 1]) [.d (.int k a), .d (.int k' b)] M K KP = K (.d (.slice true [.int k a, .int k' b])) M := by
 have := frz_d (M := M) (ds := [DV.int k a, .int k' b])
 simp only [List.map_cons, List.map_nil] at this
 simp [runOp, datumL, datum, fillS, this, DV.strip, DV.cells]
def turnS (num den : Int) : Tn := ⟨num.tdiv (Nat.gcd num.natAbs den.natAbs), den.tdiv (Nat.gcd num.natAbs den.natAbs)⟩
theorem tdiv_bd (n : Int) (g : Int) : (n.tdiv g).natAbs ≤ n.natAbs := by
 rw [Int.natAbs_tdiv]; exact Nat.div_le_self _ _
set_option maxRecDepth 10000 in
theorem turn_c (num den : Int) (h1 : num.natAbs ≤ 4611686018427387904) (h2 : den.natAbs ≤ 4611686018427387904) (h0 : den ≠ 0) : Pure C F.plate_turn [.int .i64 num, .int .i64 den] (.d (turnS num den).dv) [] := by
 have hd := divisor_c [num, den] (by simp) (by simp; omega)
 simp only [List.map_cons, List.map_nil, dv_int, gcds, Nat.gcd_zero_left] at hd
 have hg : ((Nat.gcd num.natAbs den.natAbs : Nat) : Int) ≠ 0 := by
  have : 0 < Nat.gcd num.natAbs den.natAbs := Nat.gcd_pos_of_pos_right _ (by omega)
  omega
 have w1 := tdiv_bd num (Nat.gcd num.natAbs den.natAbs)
 have w2 := tdiv_bd den (Nat.gcd num.natAbs den.natAbs)
 have e1 : IntKind.i64.wrap (num.tdiv (Nat.gcd num.natAbs den.natAbs)) = num.tdiv (Nat.gcd num.natAbs den.natAbs) := w64_in (by omega)
 have e2 : IntKind.i64.wrap (den.tdiv (Nat.gcd num.natAbs den.natAbs)) = den.tdiv (Nat.gcd num.natAbs den.natAbs) := w64_in (by omega)
 refine pure_of_pwp_d mixed rfl ok_plate_turn ?_
 simp only [pc_plate_turn, rs_plate_turn, ev_mkSl2, RN, qA, qB, qC, qD, qE, qF]
 refine call_d rfl rfl hd ?_
 simp only [hg, e1, e2, dv_Tn, turnS, RN, qA, qB, qC, qD, qE, qF]
def Piece.joined (p : Piece) (a b : Int) (by_ : Tn) : Tn × Bool :=
 if p.mesh a b then (turnS (-by_.num * (p.wh a).teeth) (by_.den * (p.wh b).teeth), true) else (by_, p.sleeved a b)
set_option maxRecDepth 10000 in
theorem laid_joined_c (l : Laid) (hg : l.p.good) (hf : l.fine) (a b : Int) (ha : l.p.isW a) (hb : l.p.isW b) (ht : 1 ≤ (l.p.wh b).teeth) (q : Tn) (hn : q.num.natAbs ≤ 1000000000000000) (hd : 1 ≤ q.den ∧ q.den ≤ 1000000000000000) :
  Pure C F.plate_laid_joined [l.dv, .int .i64 a, .int .i64 b, q.dv] (.d (.tup [(l.p.joined a b q).1.dv, .bool (l.p.joined a b q).2])) [] := by
 obtain ⟨_, t1, t2, _⟩ := good_wh hg ha
 obtain ⟨_, s1, s2, _⟩ := good_wh hg hb
 simp only [Piece.wh] at ht
 have b1 : (-q.num * (l.p.ws.getD a.toNat default).teeth).natAbs ≤ 1000000000000000000 := by
  rw [Int.natAbs_mul, Int.natAbs_neg]
  have : (l.p.ws.getD a.toNat default).teeth.natAbs ≤ 1000 := by omega
  exact Nat.mul_le_mul hn this
 have b2 : (q.den * (l.p.ws.getD b.toNat default).teeth).natAbs ≤ 1000000000000000000 := by
  rw [Int.natAbs_mul]
  have h1 : (l.p.ws.getD b.toNat default).teeth.natAbs ≤ 1000 := by omega
  have h2 : q.den.natAbs ≤ 1000000000000000 := by omega
  exact Nat.mul_le_mul h2 h1
 have b3 : q.den * (l.p.ws.getD b.toNat default).teeth ≠ 0 := Int.mul_ne_zero (by omega) (by omega)
 have e0 : IntKind.i64.wrap (0 - q.num) = -q.num := by rw [w64_in (by omega)]; omega
 have e1 : IntKind.i64.wrap (-q.num * (l.p.ws.getD a.toNat default).teeth) = -q.num * (l.p.ws.getD a.toNat default).teeth := w64_in (by omega)
 have e2 : IntKind.i64.wrap (q.den * (l.p.ws.getD b.toNat default).teeth) = q.den * (l.p.ws.getD b.toNat default).teeth := w64_in (by omega)
 have hsl := laid_sleeved_c l a b ha hb
 obtain ⟨a1, a2⟩ := ha
 obtain ⟨b1', b2'⟩ := hb
 refine pure_of_pwp_d mixed rfl ok_plate_laid_joined ?_
 simp only [pc_plate_laid_joined, rs_plate_laid_joined, dv_Laid, dv_Tn, RN, qA, qB, qC, qD, qE, qF]
 refine call_d rfl rfl (laid_mesh_c l hf a b) ?_
 cases hm : l.p.mesh a b
 ·simp only [RN, qA, qB, qC, qD, qE, qF]
  refine call_d rfl rfl hsl ?_
  simp only [Piece.joined, hm, RN, qA, qB, qC, qD, qE, qF]
  simp
 ·simp only [getD_map, a1, a2, b1', b2', dv_Wh, List.length_map, e0, e1, e2, RN, qA, qB, qC, qD, qE, qF]
  refine call_d rfl rfl (turn_c _ _ (by omega) (by omega) b3) ?_
  simp only [Piece.joined, hm, if_true, dv_Tn, Piece.wh, RN, qA, qB, qC, qD, qE, qF]
structure Dvd where
 worm : Int
 cir : List Int
 deriving DecidableEq, Inhabited
structure Ix where
 circle : Int
 turns : Int
 holes : Int
 deriving DecidableEq, Inhabited
def Dvd.dv (d : Dvd) : DV := .agg [.int .i64 d.worm, .slice false (d.cir.map intDV)]
def Ix.dv (d : Ix) : DV := .agg [.int .i64 d.circle, .int .i64 d.turns, .int .i64 d.holes]
theorem dv_Dvd {d : Dvd} : d.dv = .agg [.int .i64 d.worm, .slice false (d.cir.map intDV)] := by rw [Dvd.dv]
theorem dv_Ix {d : Ix} : d.dv = .agg [.int .i64 d.circle, .int .i64 d.turns, .int .i64 d.holes] := by rw [Ix.dv]
def Dvd.ok (d : Dvd) : Bool := inR d.worm 1 60 && inR d.cir.length 1 6 && d.cir.all (fun n => inR n 1 120)
set_option maxRecDepth 10000 in
theorem isDivider_1_c (n : Int) : Pure C F.plate_isDivider_1 [.int .i64 n] (.d (.bool (!inR n 1 120))) [] := by
 refine pure_of_pwp_d mixed rfl ok_plate_isDivider_1 ?_
 simp only [pc_plate_isDivider_1, rs_plate_isDivider_1, RN, qA, qB, qC, qD, qE, qF]
 refine call_d rfl rfl (in_c _ _ _) ?_
 simp only [RN, qA, qB, qC, qD, qE, qF]
set_option maxRecDepth 10000 in
theorem isCount_c (n : Int) : Pure C F.plate_isCount [.int .i64 n] (.d (.bool (inR n 1 400))) [] := by
 refine pure_of_pwp_d mixed rfl ok_plate_isCount ?_
 simp only [pc_plate_isCount, rs_plate_isCount, RN, qA, qB, qC, qD, qE, qF]
 refine call_d rfl rfl (in_c _ _ _) ?_
 simp only [RN, qA, qB, qC, qD, qE, qF]
theorem any_not {α : Type} (p : α → Bool) : ∀ l : List α, (l.any fun w => !p w) = !l.all p
 | [] => rfl
 | x :: l => by simp only [List.any_cons, List.all_cons, any_not p l, Bool.not_and]
set_option maxRecDepth 10000 in
theorem isDivider_c (d : Dvd) (hl : d.cir.length ≤ 1000000) : Pure C F.plate_isDivider [d.dv] (.d (.bool d.ok)) [] := by
 refine pure_of_pwp_d mixed rfl ok_plate_isDivider ?_
 simp only [pc_plate_isDivider, rs_plate_isDivider, dv_Dvd, RN, qA, qB, qC, qD, qE, qF]
 repeat' first
  | (refine call_d rfl rfl (in_c _ _ _) ?_; try simp only [List.length_map, RN, qA, qB, qC, qD, qE, qF])
  | (refine call_d rfl rfl (containsFInt_c d.cir _ [] (fun n => !inR n 1 120) hl (by kernel_rfl) (fun n _ => isDivider_1_c n)) ?_; try simp only [List.length_map, RN, qA, qB, qC, qD, qE, qF])
  | (refine guard_split (by rfl) (fun hB => ?_) (fun hB => ?_) <;> simp only [hB, List.length_map, RN, qA, qB, qC, qD, qE, qF])
  | (refine cond_split (by rfl) (fun hB => ?_) (fun hB => ?_) <;> simp only [hB, List.length_map, RN, qA, qB, qC, qD, qE, qF])
 all_goals (first | (rw [any_not]) | skip)
 all_goals (first | (simp only [Dvd.ok, *, Bool.not_true, Bool.not_false, Bool.not_not, Bool.and_true, Bool.true_and, Bool.and_false, Bool.false_and, Bool.or_true, Bool.true_or, Bool.or_false, Bool.false_or, Bool.and_self, Bool.or_self, if_true, if_false, reduceIte, cond_true, cond_false, Bool.false_eq_true]; done) | (simp_all [Dvd.ok]; done) | (simp_all [Dvd.ok]; omega))
def cutIx (worm h t i : Int) : Ix := ⟨i, ((worm * h).tdiv t).tdiv h, ((worm * h).tdiv t).tmod h⟩
def canCut (worm h t : Int) : Bool := (worm * h).tmod t == 0
set_option maxRecDepth 10000 in
theorem cuts_c (d : Dvd) (i : Nat) (t : Int) (hw : 1 ≤ d.worm ∧ d.worm ≤ 60) (hi : i < d.cir.length) (hc : 1 ≤ d.cir.getD i default ∧ d.cir.getD i default ≤ 120) (ht : 1 ≤ t) :
  Pure C F.plate_cuts [d.dv, .int .i64 i, .int .i64 t] (.d (.tup [(cutIx d.worm (d.cir.getD i default) t i).dv, .bool (canCut d.worm (d.cir.getD i default) t)])) [] := by
 have hi0 : (0 : Int) ≤ (i : Int) := by omega
 have hm : 1 ≤ d.worm * d.cir.getD i default ∧ d.worm * d.cir.getD i default ≤ 7200 := by
  have h1 := Int.mul_le_mul hw.2 hc.2 (by omega) (by omega)
  have h2 := Int.mul_le_mul hw.1 hc.1 (by omega) (by omega)
  omega
 have e1 : IntKind.i64.wrap (d.worm * d.cir.getD i default) = d.worm * d.cir.getD i default := w64_in (by omega)
 have b1 : ((d.worm * d.cir.getD i default).tdiv t).natAbs ≤ 7200 := by
  have := tdiv_bd (d.worm * d.cir.getD i default) t
  omega
 have e2 : IntKind.i64.wrap ((d.worm * d.cir.getD i default).tdiv t) = (d.worm * d.cir.getD i default).tdiv t := w64_in (by omega)
 have b2 : (((d.worm * d.cir.getD i default).tdiv t).tdiv (d.cir.getD i default)).natAbs ≤ 7200 := by
  have := tdiv_bd ((d.worm * d.cir.getD i default).tdiv t) (d.cir.getD i default)
  omega
 have e3 : IntKind.i64.wrap (((d.worm * d.cir.getD i default).tdiv t).tdiv (d.cir.getD i default)) = ((d.worm * d.cir.getD i default).tdiv t).tdiv (d.cir.getD i default) := w64_in (by omega)
 have n1 : t ≠ 0 := by omega
 have n2 : d.cir.getD i default ≠ 0 := by omega
 refine pure_of_pwp_d mixed rfl ok_plate_cuts ?_
 simp only [pc_plate_cuts, rs_plate_cuts, dv_Dvd, hi, hi0, getD_map, Int.toNat_natCast, List.length_map, dv_int, e1, e2, e3, n1, n2, dv_Ix, cutIx, canCut, RN, qA, qB, qC, qD, qE, qF]
def cutGo (worm t : Int) : Nat → List Int → Option Ix
 | _, [] => none
 | i, h :: hs => if canCut worm h t then some (cutIx worm h t i) else cutGo worm t (i + 1) hs
def Dvd.cuts (d : Dvd) (t : Int) : Ix × Int :=
 if d.ok && inR t 1 400 then (match cutGo d.worm t 0 d.cir with | some x => (x, 0) | none => (⟨0, 0, 0⟩, 5)) else (⟨0, 0, 0⟩, 2)
theorem Dvd.ok_facts {d : Dvd} (h : d.ok = true) : (1 ≤ d.worm ∧ d.worm ≤ 60) ∧ (1 ≤ d.cir.length ∧ d.cir.length ≤ 6) ∧ ∀ n ∈ d.cir, 1 ≤ n ∧ n ≤ 120 := by
 simp only [Dvd.ok, inR, Bool.and_eq_true, decide_eq_true_eq, List.all_eq_true, ge_iff_le] at h
 obtain ⟨⟨h1, h2⟩, h3⟩ := h
 exact ⟨h1, by omega, h3⟩
set_option maxRecDepth 10000 in
theorem Cuts_c (d : Dvd) (t : Int) (hl : d.cir.length ≤ 1000000) : Pure C F.plate_Cuts [d.dv, .int .i64 t] (.d (.tup [(d.cuts t).1.dv, .int .i64 (d.cuts t).2])) [] := by
 refine pure_of_pwp_d mixed rfl ok_plate_Cuts ?_
 simp only [pc_plate_Cuts, rs_plate_Cuts, dv_Dvd, RN, qA, qB, qC, qD, qE, qF]
 repeat' first
  | (refine call_d rfl rfl (isDivider_c d hl) ?_; try simp only [List.length_map, dv_Ix, RN, qA, qB, qC, qD, qE, qF])
  | (refine call_d rfl rfl (isCount_c t) ?_; try simp only [List.length_map, dv_Ix, RN, qA, qB, qC, qD, qE, qF])
  | (refine guard_split (by rfl) (fun hB => ?_) (fun hB => ?_) <;> simp only [hB, List.length_map, dv_Ix, RN, qA, qB, qC, qD, qE, qF])
  | (refine cond_split (by rfl) (fun hB => ?_) (fun hB => ?_) <;> simp only [hB, List.length_map, dv_Ix, RN, qA, qB, qC, qD, qE, qF])
 any_goals (simp_all [Dvd.cuts, dv_Ix]; done)
 have hd : d.ok = true := by simp_all
 have ht : inR t 1 400 = true := by simp_all
 obtain ⟨hw, hc, hcs⟩ := Dvd.ok_facts hd
 have ht1 : 1 ≤ t := by simp only [inR, Bool.and_eq_true, decide_eq_true_eq] at ht; omega
 have hcuts : d.cuts t = (match cutGo d.worm t 0 d.cir with | some x => (x, 0) | none => (⟨0, 0, 0⟩, 5)) := by simp only [Dvd.cuts, hd, ht, Bool.and_self, if_true]
 refine pwp_range d.cir.length (fun i (_ : Unit) => ⟨[(1, .d (.int .i64 t)), (2, .d (.cptr [.int .i64 d.worm, .slice false (d.cir.map intDV)])), (4, .ptr 1 0), (20, .d (.int .i64 d.cir.length)), (21, .d (.int .i64 i))], ⟨[some [.d (.int .i64 d.worm), .d (.slice false (d.cir.map intDV))], some [.d (.int .i64 0), .d (.int .i64 0), .d (.int .i64 0)]], [0], []⟩⟩)
  (fun i _ => cutGo d.worm t 0 d.cir = cutGo d.worm t i (d.cir.drop i)) 0 () (Nat.zero_le _) rfl (by simp) (fun i _ h1 hix => ?_) (fun _ hix => ?_)
 ·obtain ⟨h2, h3, h6⟩ := rng h1 hl
  rw [drop_cons h1, cutGo] at hix
  simp only [h2, h3, h1, Int.toNat_natCast, List.length_map, RN, qA, qB, qC, qD, qE, qF]
  refine call_d rfl rfl (cuts_c d i t hw h1 (hcs _ (getD_mem h1)) ht1) ?_
  cases hb : canCut d.worm (d.cir.getD i default) t
  ·simp only [h6, dv_Ix, RN, qA, qB, qC, qD, qE, qF]
   exact up_take 2 0 () h1 rfl (by rw [hix, hb]; rfl) (by simp) (by simp) rfl rfl
  ·simp only [dv_Ix, RN, qA, qB, qC, qD, qE, qF]
   rw [hcuts, hix, hb]
   rfl
 ·rw [List.drop_length, cutGo] at hix
  simp only [Int.lt_irrefl, RN, qA, qB, qC, qD, qE, qF]
  rw [hcuts, hix]
end Go.Tel
open Nat renaming reduceBEq → qA, reduceAdd → qB, reduceSub → qC, reduceEqDiff → qD, reduceLT → qE, reduceLeDiff → qF
namespace Go.Tel
open Go.Am
set_option maxRecDepth 10000 in
theorem max_c (l : List Int) (h0 : 0 < l.length) (hl : l.length ≤ 1000000) : Pure C F.slices_Max_int [.slice false (l.map intDV)] (.d (.int .i64 ((l.drop 1).foldl max (l.getD 0 default)))) [] := by
 refine pure_of_pwp_d mixed rfl ok_slices_Max_int ?_
 have hlt : ¬ ((l.length : Int) < 1) := by omega
 simp only [pc_slices_Max_int, rs_slices_Max_int, List.length_map, hlt, Int.le_refl, Int.toNat_zero, h0, dv_int, getD_map, RN, qA, qB, qC, qD, qE, qF]
 refine pwp_range l.length (fun i (m : Int) => ⟨[(0, .d (.slice false (l.map intDV))), (3, .d (.int .i64 m)), (4, .d (.int .i64 i))], ⟨[], [], []⟩⟩)
  (fun i m => (l.drop 1).foldl max (l.getD 0 default) = (l.drop i).foldl max m) 1 (l.getD 0 default) (by omega) rfl rfl (fun i m h1 hix => ?_) (fun m hix => ?_)
 ·obtain ⟨h2, h3, h6⟩ := rng h1 hl
  rw [drop_cons h1, List.foldl_cons] at hix
  simp only [h2, h3, h1, h6, getD_map, Int.toNat_natCast, List.length_map, dv_int, ifmax, RN, qA, qB, qC, qD, qE, qF]
  exact up_same _ h1 rfl hix (by simp) (by simp) rfl rfl
 ·rw [List.drop_length, List.foldl_nil] at hix
  simp only [Int.lt_irrefl, List.length_map, hix, RN, qA, qB, qC, qD, qE, qF]
set_option maxRecDepth 10000 in
theorem min_c (l : List Int) (h0 : 0 < l.length) (hl : l.length ≤ 1000000) : Pure C F.slices_Min_int [.slice false (l.map intDV)] (.d (.int .i64 ((l.drop 1).foldl min (l.getD 0 default)))) [] := by
 refine pure_of_pwp_d mixed rfl ok_slices_Min_int ?_
 have hlt : ¬ ((l.length : Int) < 1) := by omega
 simp only [pc_slices_Min_int, rs_slices_Min_int, List.length_map, hlt, Int.le_refl, Int.toNat_zero, h0, dv_int, getD_map, RN, qA, qB, qC, qD, qE, qF]
 refine pwp_range l.length (fun i (m : Int) => ⟨[(0, .d (.slice false (l.map intDV))), (3, .d (.int .i64 m)), (4, .d (.int .i64 i))], ⟨[], [], []⟩⟩)
  (fun i m => (l.drop 1).foldl min (l.getD 0 default) = (l.drop i).foldl min m) 1 (l.getD 0 default) (by omega) rfl rfl (fun i m h1 hix => ?_) (fun m hix => ?_)
 ·obtain ⟨h2, h3, h6⟩ := rng h1 hl
  rw [drop_cons h1, List.foldl_cons] at hix
  simp only [h2, h3, h1, h6, getD_map, Int.toNat_natCast, List.length_map, dv_int, ifmin, RN, qA, qB, qC, qD, qE, qF]
  exact up_same _ h1 rfl hix (by simp) (by simp) rfl rfl
 ·rw [List.drop_length, List.foldl_nil] at hix
  simp only [Int.lt_irrefl, List.length_map, hix, RN, qA, qB, qC, qD, qE, qF]
theorem Piece.ok_lens {p : Piece} (h : p.ok = true) : (1 ≤ p.cs.length ∧ p.cs.length ≤ 6) ∧ p.ws.length ≤ 8 ∧ p.ms.length ≤ 10 := by
 simp only [Piece.ok, Piece.lensOk, inR, Bool.and_eq_true, decide_eq_true_eq, Bool.not_eq_true', decide_eq_false_iff_not, ge_iff_le, gt_iff_lt] at h
 omega
theorem ptsOk_mem {w h : Int} : ∀ {pre cs : List Pt}, ptsOk w h pre cs = true → ∀ c ∈ cs, 0 ≤ c.x ∧ c.x ≤ w ∧ 0 ≤ c.y ∧ c.y ≤ h
 | _, [], _, c, hc => by cases hc
 | pre, d :: cs, hk, c, hc => by
  simp only [ptsOk, inR, Bool.and_eq_true, decide_eq_true_eq, ge_iff_le] at hk
  rcases List.mem_cons.1 hc with rfl | hc
  ·omega
  ·exact ptsOk_mem hk.2 c hc
theorem Piece.ok_good {p : Piece} (h : p.ok = true) : p.good := by
 have hl := Piece.ok_lens h
 simp only [Piece.ok, Piece.headOk, Bool.and_eq_true] at h
 obtain ⟨⟨⟨⟨hh, _⟩, hp⟩, hm⟩, hw⟩ := h
 simp only [inR, Bool.and_eq_true, decide_eq_true_eq, ge_iff_le] at hh
 refine ⟨fun c hc => ?_, fun w hw' => ?_, by omega, by omega, by omega, by omega, by omega, by omega⟩
 ·have := ptsOk_mem hp c hc
  omega
 ·have := List.all_eq_true.1 hw w hw'
  simp only [whOk, inR, Bool.and_eq_true, decide_eq_true_eq, ge_iff_le] at this
  omega
theorem Piece.ok_teeth {p : Piece} (h : p.ok = true) : ∀ w ∈ p.ws, 4 ≤ w.teeth ∧ w.teeth ≤ 50 ∧ 0 ≤ w.layer ∧ w.layer ≤ 5 ∧ 0 ≤ w.sleeve ∧ w.sleeve ≤ 2 := by
 simp only [Piece.ok, Bool.and_eq_true] at h
 intro w hw
 have := List.all_eq_true.1 h.2 w hw
 simp only [whOk, inR, Bool.and_eq_true, decide_eq_true_eq, ge_iff_le] at this
 omega
def Piece.ctr (p : Piece) (w : Wh) : Pt := p.cs.getD w.centre.toNat default
def Piece.xs (p : Piece) : List Wh → List Int
 | [] => []
 | w :: ws => ((p.ctr w).x - w.teeth) :: ((p.ctr w).x + w.teeth) :: Piece.xs p ws
def Piece.ys (p : Piece) : List Wh → List Int
 | [] => []
 | w :: ws => ((p.ctr w).y - w.teeth) :: ((p.ctr w).y + w.teeth) :: Piece.ys p ws
def maxL (l : List Int) : Int := (l.drop 1).foldl max (l.getD 0 default)
def minL (l : List Int) : Int := (l.drop 1).foldl min (l.getD 0 default)
def Piece.frame (p : Piece) : Int × Int × Int :=
 if p.ok then (if p.ws.length = 0 then (0, 0, 5) else (maxL (p.xs p.ws) - minL (p.xs p.ws), maxL (p.ys p.ws) - minL (p.ys p.ws), 0)) else (0, 0, 2)
theorem xs_snoc (p : Piece) : ∀ (l : List Wh) (w : Wh), p.xs (l ++ [w]) = p.xs l ++ [(p.ctr w).x - w.teeth, (p.ctr w).x + w.teeth]
 | [], w => rfl
 | v :: l, w => by simp only [List.cons_append, Piece.xs, xs_snoc p l w]
theorem ys_snoc (p : Piece) : ∀ (l : List Wh) (w : Wh), p.ys (l ++ [w]) = p.ys l ++ [(p.ctr w).y - w.teeth, (p.ctr w).y + w.teeth]
 | [], w => rfl
 | v :: l, w => by simp only [List.cons_append, Piece.ys, ys_snoc p l w]
theorem xs_len (p : Piece) : ∀ l : List Wh, (p.xs l).length = 2 * l.length
 | [] => rfl
 | v :: l => by simp only [Piece.xs, List.length_cons, xs_len p l]; omega
theorem ys_len (p : Piece) : ∀ l : List Wh, (p.ys l).length = 2 * l.length
 | [] => rfl
 | v :: l => by simp only [Piece.ys, List.length_cons, ys_len p l]; omega
theorem take_snoc {α : Type} [Inhabited α] {l : List α} {i : Nat} (h : i < l.length) : l.take (i + 1) = l.take i ++ [l.getD i default] := by
 rw [List.take_add_one, List.getElem?_eq_getElem h, List.getD_eq_getElem?_getD, List.getElem?_eq_getElem h]; rfl
theorem foldl_mem {f : Int → Int → Int} (hf : ∀ a b, f a b = a ∨ f a b = b) : ∀ (l : List Int) (a : Int), l.foldl f a = a ∨ l.foldl f a ∈ l
 | [], a => .inl rfl
 | x :: l, a => by
  rw [List.foldl_cons]
  rcases foldl_mem hf l (f a x) with h | h
  ·rw [h]
   rcases hf a x with h2 | h2
   ·exact .inl h2
   ·exact .inr (by rw [h2]; simp)
  ·exact .inr (by simp [h])
theorem maxL_mem (l : List Int) (h : 0 < l.length) : maxL l ∈ l := by
 rcases foldl_mem (f := max) (by intro a b; omega) (l.drop 1) (l.getD 0 default) with h2 | h2
 ·rw [maxL, h2]; exact getD_mem h
 ·rw [maxL]; exact List.mem_of_mem_drop h2
theorem minL_mem (l : List Int) (h : 0 < l.length) : minL l ∈ l := by
 rcases foldl_mem (f := min) (by intro a b; omega) (l.drop 1) (l.getD 0 default) with h2 | h2
 ·rw [minL, h2]; exact getD_mem h
 ·rw [minL]; exact List.mem_of_mem_drop h2
theorem maxL_c (l : List Int) (h0 : 0 < l.length) (hl : l.length ≤ 1000000) : Pure C F.slices_Max_int [.slice false (l.map intDV)] (.d (.int .i64 (maxL l))) [] := max_c l h0 hl
theorem minL_c (l : List Int) (h0 : 0 < l.length) (hl : l.length ≤ 1000000) : Pure C F.slices_Min_int [.slice false (l.map intDV)] (.d (.int .i64 (minL l))) [] := min_c l h0 hl
theorem datumL_t {bs : List (Option (List PV))} {fz : List Nat} {ar : List (Option Arr)} {k ver sz st : Nat} {xs : List DV} {v : Nat} (h : ar[k]? = some (some ⟨sz, xs, v, st⟩)) (hv : v = ver) : datumL ⟨bs, fz, ar⟩ [.tsl k ver 0] = some [.slice false xs] := by
 simp [datumL, datum, row_m, h, hv]
theorem call_f {C : Ctx} {M : Mem} {K : PV → Mem → Prop} {base : Nat} {KP : DV → Mem → Prop} {f : FuncId} {args : List PV} {ds ds' : List DV} {x : DV} (h1 : datumL M args = some ds) (h2 : ds.map DV.strip = ds') (hp : Pure C f ds' (.d x) []) (hf : isFlat x = true) (hK : K (.d x) M) : runOp C base (.pcallF f) args M K KP := ⟨ds, h1, x, h2 ▸ hp, hf, hK⟩
theorem fits_int {k : IntKind} {n : Int} : DV.fits 1 (.int k n) = true := rfl
set_option maxRecDepth 10000 in
set_option maxHeartbeats 1000000 in
theorem Frame_c (p : Piece) (hc : p.cs.length ≤ 1000) (hw : p.ws.length ≤ 1000) (hm : p.ms.length ≤ 1000) : Pure C F.plate_Frame [p.dv] (.d (.tup [.int .i64 p.frame.1, .int .i64 p.frame.2.1, .int .i64 p.frame.2.2])) [] := by
 refine pure_of_pwp_d mixed rfl ok_plate_Frame ?_
 simp only [pc_plate_Frame, rs_plate_Frame, dv_Piece, RN, qA, qB, qC, qD, qE, qF]
 refine call_d rfl rfl (isPiece_c p hc hw hm) ?_
 cases hok : p.ok
 ·simp only [RN, qA, qB, qC, qD, qE, qF]
  simp [Piece.frame, hok]
 ·have hg := Piece.ok_good hok
  simp only [List.length_map, RN, qA, qB, qC, qD, qE, qF]
  refine pwp_range p.ws.length (fun i (_ : Unit) => ⟨[(1, .d (.cptr (pieceCells p))), (5, .tsl 0 i 0), (6, .tsl 1 i 0), (14, .d (.slice false (p.ws.map Wh.dv))), (15, .d (.int .i64 p.ws.length)), (16, .d (.int .i64 i))],
    ⟨[some ((pieceCells p).map .d)], [0], [some ⟨1, (p.xs (p.ws.take i)).map intDV, i, 0⟩, some ⟨1, (p.ys (p.ws.take i)).map intDV, i, 0⟩]⟩⟩)
   (fun _ _ => True) 0 () (Nat.zero_le _) rfl trivial (fun i _ h1 _ => ?_) (fun _ _ => ?_)
  ·obtain ⟨h2, h3, h6⟩ := rng h1 (by omega)
   have hwi := hg.ws _ (getD_mem h1)
   obtain ⟨⟨c1, c2⟩, t1, t2, _⟩ := hwi
   have hp := hg.cs _ (getD_mem c2)
   have w1 : IntKind.i64.wrap ((p.cs.getD (p.ws.getD i default).centre.toNat default).x - (p.ws.getD i default).teeth) = (p.cs.getD (p.ws.getD i default).centre.toNat default).x - (p.ws.getD i default).teeth := w64_in (by omega)
   have w2 : IntKind.i64.wrap ((p.cs.getD (p.ws.getD i default).centre.toNat default).x + (p.ws.getD i default).teeth) = (p.cs.getD (p.ws.getD i default).centre.toNat default).x + (p.ws.getD i default).teeth := w64_in (by omega)
   have w3 : IntKind.i64.wrap ((p.cs.getD (p.ws.getD i default).centre.toNat default).y - (p.ws.getD i default).teeth) = (p.cs.getD (p.ws.getD i default).centre.toNat default).y - (p.ws.getD i default).teeth := w64_in (by omega)
   have w4 : IntKind.i64.wrap ((p.cs.getD (p.ws.getD i default).centre.toNat default).y + (p.ws.getD i default).teeth) = (p.cs.getD (p.ws.getD i default).centre.toNat default).y + (p.ws.getD i default).teeth := w64_in (by omega)
   have l1 : ((p.xs (p.ws.take i)).map intDV).length + 2 ≤ 1073741824 := by simp [xs_len]; omega
   have l2 : ((p.ys (p.ws.take i)).map intDV).length + 2 ≤ 1073741824 := by simp [ys_len]; omega
   simp only [h2, h3, h1, h6, c1, c2, getD_map, Int.toNat_natCast, List.length_map, dv_Wh, dv_Pt, pieceCells, ev_mkSl2, forall_eq_or_imp, forall_eq, fits_int, w1, w2, w3, w4, RN, qA, qB, qC, qD, qE, qF]
   refine ⟨fun h => (by cases h), (by rw [xs_len]; simp; omega), fun h => (by cases h), (by rw [ys_len]; simp; omega), ?_⟩
   refine up_take 1 2 () h1 ?_ trivial (by simp) (by simp) rfl rfl
   rw [take_snoc h1, xs_snoc, ys_snoc, List.map_append, List.map_append]
   rfl
  ·simp only [Int.lt_irrefl, pieceCells, List.take_length, List.length_map, RN, qA, qB, qC, qD, qE, qF]
   by_cases h0 : p.ws.length = 0
   ·have e : ((((p.xs p.ws).length - 0 : Nat) : Int) == 0) = true := by rw [xs_len]; simp [h0]
    simp only [e, RN, qA, qB, qC, qD, qE, qF]
    simp [Piece.frame, hok, h0]
   ·have e : ((((p.xs p.ws).length - 0 : Nat) : Int) == 0) = false := beq_eq_false_iff_ne.2 (by rw [xs_len]; omega)
    have hxb : ∀ l : List Wh, (∀ w ∈ l, (0 ≤ w.centre ∧ w.centre.toNat < p.cs.length) ∧ 0 ≤ w.teeth ∧ w.teeth ≤ 1000 ∧ 0 ≤ w.layer ∧ w.layer ≤ 1000) → (∀ x ∈ p.xs l, -1000 ≤ x ∧ x ≤ 2000) ∧ ∀ x ∈ p.ys l, -1000 ≤ x ∧ x ≤ 2000 := by
     intro l
     induction l with
     | nil => intro _; exact ⟨fun x hx => (by cases hx), fun x hx => (by cases hx)⟩
     | cons w l ih =>
      intro h
      have hw0 := h w (by simp)
      have hp := hg.cs _ (getD_mem hw0.1.2)
      obtain ⟨i1, i2⟩ := ih (fun v hv => h v (by simp [hv]))
      refine ⟨fun x hx => ?_, fun x hx => ?_⟩
      ·simp only [Piece.xs, List.mem_cons] at hx
       rcases hx with rfl | rfl | hx
       ·simp only [Piece.ctr]; omega
       ·simp only [Piece.ctr]; omega
       ·exact i1 x hx
      ·simp only [Piece.ys, List.mem_cons] at hx
       rcases hx with rfl | rfl | hx
       ·simp only [Piece.ctr]; omega
       ·simp only [Piece.ctr]; omega
       ·exact i2 x hx
    obtain ⟨bx, by_⟩ := hxb p.ws hg.ws
    have m1 := maxL_mem (p.xs p.ws) (by rw [xs_len]; omega)
    have m2 := minL_mem (p.xs p.ws) (by rw [xs_len]; omega)
    have m3 := maxL_mem (p.ys p.ws) (by rw [ys_len]; omega)
    have m4 := minL_mem (p.ys p.ws) (by rw [ys_len]; omega)
    have b1 := bx _ m1
    have b2 := bx _ m2
    have b3 := by_ _ m3
    have b4 := by_ _ m4
    have l1 : (p.xs p.ws).length ≤ 1000000 := by rw [xs_len]; omega
    have l2 : (p.ys p.ws).length ≤ 1000000 := by rw [ys_len]; omega
    have w1 : IntKind.i64.wrap (maxL (p.xs p.ws) - minL (p.xs p.ws)) = maxL (p.xs p.ws) - minL (p.xs p.ws) := w64_in (by omega)
    have w2 : IntKind.i64.wrap (maxL (p.ys p.ws) - minL (p.ys p.ws)) = maxL (p.ys p.ws) - minL (p.ys p.ws) := w64_in (by omega)
    simp only [e, RN, qA, qB, qC, qD, qE, qF]
    refine call_f (datumL_t rfl rfl) rfl (maxL_c _ (by rw [xs_len]; omega) l1) rfl ?_
    refine call_f (datumL_t rfl rfl) rfl (minL_c _ (by rw [xs_len]; omega) l1) rfl ?_
    simp only [w1, RN, qA, qB, qC, qD, qE, qF]
    refine call_f (datumL_t rfl rfl) rfl (maxL_c _ (by rw [ys_len]; omega) l2) rfl ?_
    refine call_f (datumL_t rfl rfl) rfl (minL_c _ (by rw [ys_len]; omega) l2) rfl ?_
    simp only [w2, RN, qA, qB, qC, qD, qE, qF]
    simp [Piece.frame, hok, h0]
end Go.Tel
open Nat renaming reduceBEq → qA, reduceAdd → qB, reduceSub → qC, reduceEqDiff → qD, reduceLT → qE, reduceLeDiff → qF
namespace Go.Tel
open Go.Am
theorem allD_t {k v s : Nat} {l : List PV} : allD (.tsl k v s :: l) = none := rfl
theorem tupO_none {cs : List PV} : tupO none cs = .tup cs := rfl
theorem aggO_none {cs : List PV} : aggO none cs = .agg cs := rfl
def above (prev : Option Int) (n : Int) : Bool := match prev with | some q => decide (n ≤ q) | none => false
def incGo (holes : Int) : Option Int → List Int → Bool
 | _, [] => true
 | prev, n :: r => inR n 0 (holes - 1) && !above prev n && incGo holes (some n) r
def byGo (m0 : Int) : List Int → Nat → Nat
 | [], g => g
 | n :: r, g => byGo m0 r (Nat.gcd g (n - m0).natAbs)
def stepGo (holes by_ : Int) : Nat → Int → List Int
 | 0, _ => []
 | k + 1, n => if n < holes then n :: stepGo holes by_ k (n + by_) else []
def evenOk (holes : Int) (marks : List Int) : Bool := inR holes 1 120 && !(marks.length == 0) && incGo holes none marks
def evenBy (holes : Int) (marks : List Int) : Nat := byGo (marks.getD 0 default) marks holes.toNat
def evenNew (holes : Int) (marks : List Int) : List Int :=
 (stepGo holes (evenBy holes marks) holes.toNat ((marks.getD 0 default).tmod (evenBy holes marks))).filter fun n => !marks.contains n
def evenS (holes : Int) (marks : List Int) : Int × List Int × Int :=
 if evenOk holes marks then (holes.tdiv (evenBy holes marks), evenNew holes marks, 0) else (0, [], 2)
theorem incGo_mem {holes : Int} : ∀ {prev : Option Int} {l : List Int}, incGo holes prev l = true → ∀ n ∈ l, 0 ≤ n ∧ n ≤ holes - 1
 | _, [], _, n, hn => by cases hn
 | prev, m :: l, h, n, hn => by
  simp only [incGo, inR, Bool.and_eq_true, decide_eq_true_eq, ge_iff_le] at h
  rcases List.mem_cons.1 hn with rfl | hn
  ·exact h.1.1
  ·exact incGo_mem h.2 n hn
theorem byGo_pos (m0 : Int) : ∀ (l : List Int) (g : Nat), 0 < g → 0 < byGo m0 l g ∧ byGo m0 l g ≤ g
 | [], g, h => ⟨h, Nat.le_refl _⟩
 | n :: l, g, h => by
  have h1 : 0 < Nat.gcd g (n - m0).natAbs := Nat.gcd_pos_of_pos_left _ h
  have h2 := byGo_pos m0 l _ h1
  have h3 := Nat.gcd_le_left (n - m0).natAbs h
  simp only [byGo]
  omega
set_option maxRecDepth 10000 in
set_option maxHeartbeats 1000000 in
theorem Even_c (holes : Int) (marks : List Int) (hl : marks.length ≤ 1000) : Pure C F.plate_Even [.int .i64 holes, .slice false (marks.map intDV)] (.d (.tup [.int .i64 (evenS holes marks).1, .slice false ((evenS holes marks).2.1.map intDV), .int .i64 (evenS holes marks).2.2])) [] := by
 refine pure_of_pwp_f mixed rfl ok_plate_Even ?_
 simp only [pc_plate_Even, rs_plate_Even, RN, qA, qB, qC, qD, qE, qF]
 repeat' first
  | (refine call_d rfl rfl (in_c _ _ _) ?_; try simp only [List.length_map, allD_t, Option.map_none, tupO_none, RN, qA, qB, qC, qD, qE, qF])
  | (refine guard_split (by rfl) (fun hB => ?_) (fun hB => ?_) <;> simp only [hB, List.length_map, allD_t, Option.map_none, tupO_none, RN, qA, qB, qC, qD, qE, qF])
  | (refine cond_split (by rfl) (fun hB => ?_) (fun hB => ?_) <;> simp only [hB, List.length_map, allD_t, Option.map_none, tupO_none, RN, qA, qB, qC, qD, qE, qF])
 any_goals (simp_all [evenS, evenOk, datum, datum0L, datum0, row_m]; done)
 have hh : inR holes 1 120 = true := by simp_all
 have hne : ((marks.length : Int) == 0) = false := hB
 simp only [inR, Bool.and_eq_true, decide_eq_true_eq, ge_iff_le] at hh
 have h0 : 0 < marks.length := by have := beq_eq_false_iff_ne.1 hne; omega
 have hw1 : IntKind.i64.wrap (holes - 1) = holes - 1 := w64_in (by omega)
 refine pwp_range marks.length (fun i (g : Nat) => ⟨[(0, .d (.int .i64 holes)), (1, .d (.slice false (marks.map intDV))), (7, .d (.int .i64 g)), (21, .d (.slice false (marks.map intDV))), (22, .d (.int .i64 marks.length)), (23, .d (.int .i64 i))], ⟨[], [], [some ⟨1, [], 0, 0⟩]⟩⟩)
  (fun i g => incGo holes none marks = incGo holes (if i = 0 then none else some (marks.getD (i - 1) default)) (marks.drop i) ∧ evenBy holes marks = byGo (marks.getD 0 default) (marks.drop i) g ∧ 0 < g ∧ g ≤ 120 ∧ (0 < i → 0 ≤ marks.getD 0 default ∧ marks.getD 0 default ≤ 120)) 0 holes.toNat (Nat.zero_le _) (by rw [Int.toNat_of_nonneg (by omega)]; rfl) ⟨rfl, rfl, by omega, by omega, by omega⟩ (fun i g h1 hP => ?_) (fun g hP => ?_)
 ·obtain ⟨h2, h3, h6⟩ := rng h1 (by omega)
  obtain ⟨hix, hby, g1, g2, g3⟩ := hP
  rw [drop_cons h1] at hix hby
  rw [incGo] at hix
  rw [byGo] at hby
  have hm0 : (0 : Int) ≤ 0 := Int.le_refl _
  have hlen : 0 < marks.length := h0
  have next : inR (marks.getD i default) 0 (holes - 1) = true → above (if i = 0 then none else some (marks.getD (i - 1) default)) (marks.getD i default) = false →
    (incGo holes none marks = incGo holes (if i + 1 = 0 then none else some (marks.getD (i + 1 - 1) default)) (marks.drop (i + 1)) ∧ evenBy holes marks = byGo (marks.getD 0 default) (marks.drop (i + 1)) (Nat.gcd g (marks.getD i default - marks.getD 0 default).natAbs) ∧ 0 < Nat.gcd g (marks.getD i default - marks.getD 0 default).natAbs ∧ Nat.gcd g (marks.getD i default - marks.getD 0 default).natAbs ≤ 120 ∧ (0 < i + 1 → 0 ≤ marks.getD 0 default ∧ marks.getD 0 default ≤ 120)) := by
   intro e1 e2
   have hr := e1
   simp only [inR, Bool.and_eq_true, decide_eq_true_eq, ge_iff_le] at hr
   refine ⟨?_, hby, Nat.gcd_pos_of_pos_left _ g1, Nat.le_trans (Nat.gcd_le_left _ g1) g2, fun _ => ?_⟩
   ·rw [hix, e1, e2, if_neg (by omega), Nat.add_sub_cancel]; rfl
   ·rcases Nat.eq_zero_or_pos i with hz | hz
    ·subst hz; omega
    ·exact g3 hz
  have hgo : inR (marks.getD i default) 0 (holes - 1) = true → 0 ≤ marks.getD 0 default ∧ marks.getD 0 default ≤ 120 := by
   intro e1
   simp only [inR, Bool.and_eq_true, decide_eq_true_eq, ge_iff_le] at e1
   rcases Nat.eq_zero_or_pos i with hz | hz
   ·subst hz; omega
   ·exact g3 hz
  have hd : inR (marks.getD i default) 0 (holes - 1) = true → Pure C F.plate_divisor [.slice false [.int .i64 g, .int .i64 (marks.getD i default - marks.getD 0 default)]] (.d (.int .i64 (Nat.gcd g (marks.getD i default - marks.getD 0 default).natAbs))) [] := by
   intro e1
   have h5 := hgo e1
   simp only [inR, Bool.and_eq_true, decide_eq_true_eq, ge_iff_le] at e1
   have := divisor_c [(g : Int), marks.getD i default - marks.getD 0 default] (by simp) (by intro x hx; simp only [List.mem_cons, List.not_mem_nil, or_false] at hx; rcases hx with rfl | rfl <;> omega)
   simpa only [List.map_cons, List.map_nil, dv_int, gcds, Nat.gcd_zero_left, Int.natAbs_natCast] using this
  have hws : inR (marks.getD i default) 0 (holes - 1) = true → IntKind.i64.wrap (marks.getD i default - marks.getD 0 default) = marks.getD i default - marks.getD 0 default := by
   intro e1
   have h5 := hgo e1
   simp only [inR, Bool.and_eq_true, decide_eq_true_eq, ge_iff_le] at e1
   exact w64_in (by omega)
  simp only [h2, h3, h1, getD_map, Int.toNat_natCast, List.length_map, dv_int, hw1, RN, qA, qB, qC, qD, qE, qF]
  refine call_d rfl rfl (in_c _ _ _) ?_
  cases hr : inR (marks.getD i default) 0 (holes - 1)
  ·simp only [allD_t, Option.map_none, tupO_none, RN, qA, qB, qC, qD, qE, qF]
   simp_all [evenS, evenOk, datum, datum0L, datum0, row_m]
  ·have hw2 := hws hr
   have hd2 := hd hr
   rcases Nat.eq_zero_or_pos i with hz | hz
   ·subst hz
    have e0 : ¬ (((0 : Nat) : Int) > 0) := by omega
    simp only [e0, hm0, hlen, Int.toNat_zero, getD_map, List.length_map, dv_int, hw2, ev_mkSl2, RN, qA, qB, qC, qD, qE, qF]
    refine call_d rfl rfl hd2 ?_
    simp only [h6, RN, qA, qB, qC, qD, qE, qF]
    exact up_same _ h1 rfl (next hr rfl) (by simp) (by simp) rfl rfl
   ·have e0 : ((i : Int) > 0) := by omega
    have e1 : IntKind.i64.wrap ((i : Int) - 1) = ((i - 1 : Nat) : Int) := by rw [w64_in (by omega)]; omega
    have e2 : (0 : Int) ≤ ((i - 1 : Nat) : Int) := by omega
    have e3 : i - 1 < marks.length := by omega
    have eab : above (if i = 0 then none else some (marks.getD (i - 1) default)) (marks.getD i default) = decide (marks.getD i default ≤ marks.getD (i - 1) default) := by rw [if_neg (by omega)]; rfl
    simp only [e0, e1, e2, e3, Int.toNat_natCast, getD_map, List.length_map, dv_int, RN, qA, qB, qC, qD, qE, qF]
    cases hb : decide (marks.getD i default ≤ marks.getD (i - 1) default)
    ·simp only [hm0, hlen, Int.toNat_zero, getD_map, List.length_map, dv_int, hw2, ev_mkSl2, RN, qA, qB, qC, qD, qE, qF]
     refine call_d rfl rfl hd2 ?_
     simp only [h6, RN, qA, qB, qC, qD, qE, qF]
     exact up_same _ h1 rfl (next hr (by rw [eab, hb])) (by simp) (by simp) rfl rfl
    ·simp only [allD_t, Option.map_none, tupO_none, RN, qA, qB, qC, qD, qE, qF]
     have : incGo holes none marks = false := by rw [hix, eab, hb, hr]; rfl
     simp_all [evenS, evenOk, datum, datum0L, datum0, row_m]
 ·obtain ⟨hinc, hby, g1, g2, g3⟩ := hP
  have g3 := g3 h0
  rw [List.drop_length, incGo] at hinc
  rw [List.drop_length, byGo] at hby
  have hok : evenOk holes marks = true := by simp only [evenOk, hinc, Bool.and_true, Bool.and_eq_true]; simp_all
  have hm0 : (0 : Int) ≤ 0 := Int.le_refl _
  have hg0 : (g : Int) ≠ 0 := by omega
  have hn1 : 0 ≤ (marks.getD 0 default).tmod g := Int.tmod_nonneg _ g3.1
  have hn2 : (marks.getD 0 default).tmod g ≤ 120 := by
   have : ((marks.getD 0 default).tmod g).natAbs ≤ (marks.getD 0 default).natAbs := by rw [Int.natAbs_tmod]; exact Nat.mod_le _ _
   omega
  simp only [Int.lt_irrefl, hm0, h0, Int.toNat_zero, getD_map, List.length_map, dv_int, hg0, RN, qA, qB, qC, qD, qE, qF]
  refine pwp_while (fun (q : Nat × Int × List Int × Nat) => ⟨[(0, .d (.int .i64 holes)), (1, .d (.slice false (marks.map intDV))), (7, .d (.int .i64 g)), (10, .tsl 1 q.2.2.2 0), (11, .d (.int .i64 q.2.1))], ⟨[], [], [some ⟨1, [], 0, 0⟩, some ⟨1, q.2.2.1.map intDV, q.2.2.2, 0⟩]⟩⟩)
   (fun q => q.2.2.1 ++ (stepGo holes g q.1 q.2.1).filter (fun n => !marks.contains n) = evenNew holes marks ∧ holes - q.2.1 ≤ q.1 ∧ 0 ≤ q.2.1 ∧ q.2.1 ≤ 300 ∧ q.2.2.1.length + q.1 ≤ 200) (fun q => q.1)
   (holes.toNat, (marks.getD 0 default).tmod g, [], 0) rfl ⟨by simp only [evenNew, hby, List.nil_append], by simp only; omega, hn1, by simp only; omega, by simp; omega⟩ ?_
  rintro ⟨k, n, acc, ver⟩ ⟨p1, p2, p3, p4, p5⟩
  simp only at p1 p2 p3 p4 p5
  by_cases hlt : n < holes
  ·obtain ⟨k, rfl⟩ : ∃ k', k = k' + 1 := ⟨k - 1, by omega⟩
   rw [stepGo, if_pos hlt] at p1
   have hw3 : IntKind.i64.wrap (n + g) = n + g := w64_in (by omega)
   simp only [hlt, RN, qA, qB, qC, qD, qE, qF]
   refine call_d rfl rfl (containsInt_c marks n (by omega)) ?_
   cases hb : marks.contains n
   ·simp only [ev_mkSl1, hw3, DV.strip, forall_eq, fits_int, List.length_map, RN, qA, qB, qC, qD, qE, qF]
    refine ⟨by simp, by omega, ?_⟩
    refine wh_same (μ := fun q : Nat × Int × List Int × Nat => q.1) (a := (k + 1, n, acc, ver)) (k, n + g, acc ++ [n], ver + 1) (by simp only; omega) ?_ ⟨?_, by simp only; omega, by simp only; omega, by simp only; omega, by simp; omega⟩ (by simp) (by simp) rfl rfl
    ·rw [List.map_append]; rfl
    ·rw [← p1, List.filter_cons, hb]; simp
   ·simp only [hw3, RN, qA, qB, qC, qD, qE, qF]
    refine wh_same (μ := fun q : Nat × Int × List Int × Nat => q.1) (a := (k + 1, n, acc, ver)) (k, n + g, acc, ver) (by simp only; omega) rfl ⟨?_, by simp only; omega, by simp only; omega, by simp only; omega, by simp only; omega⟩ (by simp) (by simp) rfl rfl
    rw [← p1, List.filter_cons, hb]; simp
  ·have hs : stepGo holes g k n = [] := by cases k <;> simp [stepGo, hlt]
   rw [hs, List.filter_nil, List.append_nil] at p1
   have hwq : IntKind.i64.wrap (holes.tdiv g) = holes.tdiv g := by
    have := tdiv_bd holes g
    exact w64_in (by omega)
   simp only [hlt, hg0, hwq, allD_t, Option.map_none, tupO_none, RN, qA, qB, qC, qD, qE, qF]
   simp [evenS, hok, hby, datum, datum0L, datum0, row_m, p1]
end Go.Tel
open Nat renaming reduceBEq → qA, reduceAdd → qB, reduceSub → qC, reduceEqDiff → qD, reduceLT → qE, reduceLeDiff → qF
namespace Go.Tel
open Go.Am
set_option maxRecDepth 10000 in
theorem cloneInt_c (xs : List DV) (hf : ∀ y ∈ xs, y.fits 1 = true) (hl : xs.length ≤ 1000000) : Pure C F.slices_Clone_int [.slice false xs] (.tsl 0 0 0) [⟨1, xs, 0, 0⟩] := by
 refine pure_of_pwp mixed rfl ok_slices_Clone_int ?_
 simp only [pc_slices_Clone_int, rs_slices_Clone_int, RN, qA, qB, qC, qD, qE, qF]
 refine ⟨fun hx => ?_, fun hx b => ?_⟩
 ·exact ⟨hf, by simp, by simp, by omega, sel_one (k := 1) (A := ⟨1, xs, 0, 0⟩) rfl rfl (Nat.zero_le _) rfl⟩
 ·subst hx
  cases b
  ·simp only [RN, qA, qB, qC, qD, qE, qF]
   refine ⟨?_, ?_, ?_, sel_one (k := 1) (A := ⟨1, [], 0, 0⟩) rfl rfl (Nat.zero_le _) rfl⟩ <;> simp
  ·simp only [RN, qA, qB, qC, qD, qE, qF]
   exact sel_one (k := 1) (A := ⟨1, [], 0, 0⟩) rfl rfl (Nat.zero_le _) rfl
set_option maxRecDepth 10000 in
theorem clonePt_c (xs : List DV) (hf : ∀ y ∈ xs, y.fits 2 = true) (hl : xs.length ≤ 1000000) : Pure C F.slices_Clone_api_PlatePoint [.slice false xs] (.tsl 0 0 0) [⟨2, xs, 0, 0⟩] := by
 refine pure_of_pwp mixed rfl ok_slices_Clone_api_PlatePoint ?_
 simp only [pc_slices_Clone_api_PlatePoint, rs_slices_Clone_api_PlatePoint, RN, qA, qB, qC, qD, qE, qF]
 refine ⟨fun hx => ?_, fun hx b => ?_⟩
 ·exact ⟨hf, by simp, by simp, by omega, sel_one (k := 1) (A := ⟨2, xs, 0, 0⟩) rfl rfl (Nat.zero_le _) rfl⟩
 ·subst hx
  cases b
  ·simp only [RN, qA, qB, qC, qD, qE, qF]
   refine ⟨?_, ?_, ?_, sel_one (k := 1) (A := ⟨2, [], 0, 0⟩) rfl rfl (Nat.zero_le _) rfl⟩ <;> simp
  ·simp only [RN, qA, qB, qC, qD, qE, qF]
   exact sel_one (k := 1) (A := ⟨2, [], 0, 0⟩) rfl rfl (Nat.zero_le _) rfl
set_option maxRecDepth 10000 in
theorem cloneWh_c (xs : List DV) (hf : ∀ y ∈ xs, y.fits 4 = true) (hl : xs.length ≤ 1000000) : Pure C F.slices_Clone_api_PlateWheel [.slice false xs] (.tsl 0 0 0) [⟨4, xs, 0, 0⟩] := by
 refine pure_of_pwp mixed rfl ok_slices_Clone_api_PlateWheel ?_
 simp only [pc_slices_Clone_api_PlateWheel, rs_slices_Clone_api_PlateWheel, RN, qA, qB, qC, qD, qE, qF]
 refine ⟨fun hx => ?_, fun hx b => ?_⟩
 ·exact ⟨hf, by simp, by simp, by omega, sel_one (k := 1) (A := ⟨4, xs, 0, 0⟩) rfl rfl (Nat.zero_le _) rfl⟩
 ·subst hx
  cases b
  ·simp only [RN, qA, qB, qC, qD, qE, qF]
   refine ⟨?_, ?_, ?_, sel_one (k := 1) (A := ⟨4, [], 0, 0⟩) rfl rfl (Nat.zero_le _) rfl⟩ <;> simp
  ·simp only [RN, qA, qB, qC, qD, qE, qF]
   exact sel_one (k := 1) (A := ⟨4, [], 0, 0⟩) rfl rfl (Nat.zero_le _) rfl
set_option maxRecDepth 10000 in
theorem cloneMs_c (xs : List DV) (hf : ∀ y ∈ xs, y.fits 2 = true) (hl : xs.length ≤ 1000000) : Pure C F.slices_Clone_api_PlateMesh [.slice false xs] (.tsl 0 0 0) [⟨2, xs, 0, 0⟩] := by
 refine pure_of_pwp mixed rfl ok_slices_Clone_api_PlateMesh ?_
 simp only [pc_slices_Clone_api_PlateMesh, rs_slices_Clone_api_PlateMesh, RN, qA, qB, qC, qD, qE, qF]
 refine ⟨fun hx => ?_, fun hx b => ?_⟩
 ·exact ⟨hf, by simp, by simp, by omega, sel_one (k := 1) (A := ⟨2, xs, 0, 0⟩) rfl rfl (Nat.zero_le _) rfl⟩
 ·subst hx
  cases b
  ·simp only [RN, qA, qB, qC, qD, qE, qF]
   refine ⟨?_, ?_, ?_, sel_one (k := 1) (A := ⟨2, [], 0, 0⟩) rfl rfl (Nat.zero_le _) rfl⟩ <;> simp
  ·simp only [RN, qA, qB, qC, qD, qE, qF]
   exact sel_one (k := 1) (A := ⟨2, [], 0, 0⟩) rfl rfl (Nat.zero_le _) rfl
theorem pts_fit (xs : List Pt) : ∀ y ∈ xs.map Pt.dv, y.fits 2 = true := by
 intro y hy; obtain ⟨n, _, rfl⟩ := List.mem_map.1 hy; rfl
theorem whs_fit (xs : List Wh) : ∀ y ∈ xs.map Wh.dv, y.fits 4 = true := by
 intro y hy; obtain ⟨n, _, rfl⟩ := List.mem_map.1 hy; rfl
theorem mss_fit (xs : List Ms) : ∀ y ∈ xs.map Ms.dv, y.fits 2 = true := by
 intro y hy; obtain ⟨n, _, rfl⟩ := List.mem_map.1 hy; rfl
theorem ints_fit (xs : List Int) : ∀ y ∈ xs.map intDV, y.fits 1 = true := by
 intro y hy; obtain ⟨n, _, rfl⟩ := List.mem_map.1 hy; rfl
theorem call_r {C : Ctx} {bs : List (Option (List PV))} {fz : List Nat} {ar : List (Option Arr)} {K : PV → Mem → Prop} {base : Nat} {KP : DV → Mem → Prop} {f : FuncId} {args : List PV} {ds ds' : List DV} {r : PV} {rows : List Arr} (h1 : allD args = some ds) (h2 : ds.map DV.strip = ds') (hp : Pure C f ds' r rows) (hs : ∀ A ∈ rows, A.st ≠ 2)
  (hK : K (r.shift ar.length) ⟨bs, fz, ar ++ rows.map some⟩) : runOp C base (.pcall f) args ⟨bs, fz, ar⟩ K KP := by
 have he := allD_eq h1
 subst he
 have hdl : datumL ⟨bs, fz, ar⟩ (ds.map .d) = some ds := by
  clear h1 h2 hp hK
  induction ds with
  | nil => rfl
  | cons d ds ih => simp only [List.map_cons, datumL, datum, ih]
 exact ⟨ds, hdl, r, rows, h2 ▸ hp, .inr ⟨hs, by rw [frz_d]; exact hK⟩⟩
def Piece.with (p : Piece) (at_ : Pt) (layer teeth : Int) (others : List Int) : Piece :=
 {p with cs := p.cs ++ [at_], ws := p.ws ++ [⟨p.cs.length, 0, layer, teeth⟩], ms := p.ms ++ others.map fun m => ⟨m, p.ws.length⟩ }
theorem shift_t {n k v s : Nat} : PV.shift n (.tsl k v s) = .tsl (n + k) v s := rfl
theorem cells_t {k v s : Nat} : PV.cells (.tsl k v s) = [.tsl k v s] := rfl
theorem one_t {k v s : Nat} : PV.one (.tsl k v s) = true := rfl
theorem dead_t {k v s : Nat} : PV.isDead (.tsl k v s) = false := rfl
theorem ev_mkSl1s {C : Ctx} {base sz : Nat} {M : Mem} {K : PV → Mem → Prop} {KP : DV → Mem → Prop} {z : DV} {a b : Int} : runOp C base (.mkSl sz [z] [0]) [.d (.agg [.int .i64 a, .int .i64 b])] M K KP = (2 = sz ∧ K (.d (.slice true [.agg [.int .i64 a, .int .i64 b]])) M) := by
 rw [ev_mkSl1]; rfl
theorem ev_mkSl1w {C : Ctx} {base sz : Nat} {M : Mem} {K : PV → Mem → Prop} {KP : DV → Mem → Prop} {z : DV} {a b c d : Int} : runOp C base (.mkSl sz [z] [0]) [.d (.agg [.int .i64 a, .int .i64 b, .int .i64 c, .int .i64 d])] M K KP = (4 = sz ∧ K (.d (.slice true [.agg [.int .i64 a, .int .i64 b, .int .i64 c, .int .i64 d]])) M) := by
 rw [ev_mkSl1]; rfl
theorem modify_set {α : Type} {f : α → α} {a : α} : ∀ {l : List α} {k : Nat}, (l.set k a).modify k f = l.set k (f a)
 | [], k => by simp
 | x :: l, 0 => by simp
 | x :: l, k + 1 => by simp only [List.set_cons_succ, List.modify_succ_cons, modify_set]
theorem ev_appF {C : Ctx} {bs : List (Option (List PV))} {fz : List Nat} {ar : List (Option Arr)} {K : PV → Mem → Prop} {base : Nat} {KP : DV → Mem → Prop} {k ver skip sz st : Nat} {xs ys : List DV} {ex : Bool} (h : ar[k]? = some (some ⟨sz, xs, ver, st⟩)) (hst : st ≠ 2) (h0 : 0 < sz) (hf : ∀ y ∈ ys, y.fits sz = true)
  (hl : xs.length + ys.length ≤ 1073741824) (hK : K (.d (.slice false (xs.drop skip ++ ys))) ⟨bs, fz, ar.set k (some ⟨sz, xs.drop skip ++ ys, ver + 1, 2⟩)⟩) : runOp C base (.appF sz) [.tsl k ver skip, .d (.slice ex ys)] ⟨bs, fz, ar⟩ K KP := by
 have hk : k < ar.length := (List.getElem?_eq_some_iff.1 h).1
 simp only [runOp, app_td, h, appRow_s]
 refine ⟨h0, hf, fun hh => (by cases hh), trivial, trivial, hst, hl, DV.slice false (xs.drop skip ++ ys), ?_, ?_⟩
 ·simp [datum, row_m, hk]
 ·have e : (⟨bs, fz, ar.set k (some ⟨sz, xs.drop skip ++ ys, ver + 1, bif false then 1 else st⟩)⟩ : Mem).frz [.tsl k (ver + 1) 0] = ⟨bs, fz, ar.set k (some ⟨sz, xs.drop skip ++ ys, ver + 1, 2⟩)⟩ := by
   simp only [Mem.frz, refsB, refsA, List.flatMap_cons, List.flatMap_nil, List.append_nil, List.nil_append, frzA, List.foldl_cons, List.foldl_nil, modify_set, Option.map_some]
  rw [e]; exact hK
set_option maxRecDepth 10000 in
set_option maxHeartbeats 1000000 in
theorem with_c (p : Piece) (at_ : Pt) (layer teeth : Int) (others : List Int) (hc : p.cs.length ≤ 1000) (hw : p.ws.length ≤ 1000) (hm : p.ms.length ≤ 1000) (ho : others.length ≤ 1000) :
  Pure C F.plate_with [p.dv, at_.dv, .int .i64 layer, .int .i64 teeth, .slice false (others.map intDV)] (.d (p.with at_ layer teeth others).dv) [] := by
 refine pure_of_pwp_f mixed rfl ok_plate_with ?_
 have e0 : IntKind.i64.wrap (((p.cs.length + 1 : Nat) : Int) - 1) = p.cs.length := by rw [w64_in (by omega)]; omega
 simp only [pc_plate_with, rs_plate_with, dv_Piece, dv_Pt, List.length_map, RN, qA, qB, qC, qD, qE, qF]
 refine call_r rfl rfl (clonePt_c _ (pts_fit p.cs) (by simp; omega)) (by simp) ?_
 simp only [shift_t, List.length_nil, Nat.zero_add, List.map_cons, List.map_nil, List.nil_append]
 refine ⟨rfl, ev_appF rfl (by decide) (by decide) (by simp [DV.strip, DV.fits, DV.cells, DV.one]) (by simp; omega) ?_⟩
 simp only [List.length_map, DV.strip, List.length_append, RN, qA, qB, qC, qD, qE, qF]
 refine call_r rfl rfl (cloneWh_c _ (whs_fit p.ws) (by simp; omega)) (by simp) ?_
 simp only [shift_t, e0, List.length_append, List.length_map, RN, qA, qB, qC, qD, qE, qF]
 refine ev_appF rfl (by decide) (by decide) (by simp [DV.fits, DV.cells, DV.one]) (by simp; omega) ?_
 simp only [List.length_map, DV.strip, List.length_append, RN, qA, qB, qC, qD, qE, qF]
 refine call_r rfl rfl (cloneMs_c _ (mss_fit p.ms) (by simp; omega)) (by simp) ?_
 simp only [shift_t, List.length_map, cells_t, one_t, RN, qA, qB, qC, qD, qE, qF]
 refine pwp_range others.length (fun i (_ : Unit) => ⟨[(5, .ptr 0 0), (10, .ptr 2 0), (11, .d (.int .i64 p.ws.length)), (41, .d (.slice false (others.map intDV))), (42, .d (.int .i64 others.length)), (43, .d (.int .i64 i))],
   ⟨[some [.d (.int .i64 p.w), .d (.int .i64 p.h), .d (.int .i64 p.pl), .d (.int .i64 p.ga), .d (.int .i64 p.po), .d (.slice false (p.cs.map Pt.dv ++ [.agg [.int .i64 at_.x, .int .i64 at_.y]])), .d (.slice false (p.ws.map Wh.dv ++ [.agg [.int .i64 p.cs.length, .int .i64 0, .int .i64 layer, .int .i64 teeth]])), .tsl 2 i 0],
    some [.d (.int .i64 at_.x), .d (.int .i64 at_.y)], some [.d (.int .i64 0), .d (.int .i64 0), .d (.int .i64 0), .d (.int .i64 0), .d (.int .i64 0), .d (.slice true []), .d (.slice true []), .d (.slice true [])]], [1],
    [some ⟨2, p.cs.map Pt.dv ++ [.agg [.int .i64 at_.x, .int .i64 at_.y]], 1, 2⟩, some ⟨4, p.ws.map Wh.dv ++ [.agg [.int .i64 p.cs.length, .int .i64 0, .int .i64 layer, .int .i64 teeth]], 1, 2⟩, some ⟨2, p.ms.map Ms.dv ++ (others.take i).map (fun m => Ms.dv ⟨m, p.ws.length⟩), i, 0⟩]⟩⟩)
  (fun _ _ => True) 0 () (Nat.zero_le _) (by simp) trivial (fun i _ h1 _ => ?_) (fun _ _ => ?_)
 ·obtain ⟨h2, h3, h6⟩ := rng h1 (by omega)
  simp only [h2, h3, h1, h6, getD_map, Int.toNat_natCast, List.length_map, dv_int, ev_mkSl1s, forall_eq, List.length_append, cells_t, one_t, RN, qA, qB, qC, qD, qE, qF]
  refine ⟨rfl, rfl, fun hh => (by cases hh), (by simp; omega), ?_⟩
  refine up_same () h1 ?_ trivial (by simp) (by simp) rfl rfl
  rw [take_snoc h1, List.map_append, ← List.append_assoc]
  rfl
 ·simp only [Int.lt_irrefl, List.take_length, List.length_map, allD_t, Option.map_none, aggO_none, PV.cells, one_t, RN, qA, qB, qC, qD, qE, qF]
  simp [datum, datum0L, datum0, row_m, dv_Piece, Piece.with, dv_Pt, dv_Wh]
end Go.Tel
