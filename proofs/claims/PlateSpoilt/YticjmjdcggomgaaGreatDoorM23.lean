/-
  Part 23 of the proof of a law of plates: an abstract machine over the model, contracts of functions, plain laws.
  Conditions: none.
-/
import Derived.Test.YticjmjdcggomgaaGreatDoorM22
import Derived.Ground.NamesProg
import Derived.Shelf.Strings.Split
import Derived.Shelf.Strings.OnBuilder
import Derived.Shelf.Strconv.Itoa3
import Derived.Shelf.Strings.Cut
import Derived.Shelf.Sort.Plain
import Derived.Test.YticjmjdcggomgaaGreatDoorChecked
set_option linter.all false
open Nat renaming reduceBEq → qA, reduceAdd → qB, reduceSub → qC, reduceEqDiff → qD, reduceLT → qE, reduceLeDiff → qF
namespace Go.Am
section
variable {C : Ctx} {base nb na : Nat} {K : DV → Prop} {KP : DV → Mem → Prop} {L : PV → Mem → Prop} {bs : List (Option (List PV))} {fz : List Nat} {ar : List (Option Arr)}
theorem int_and {k : IntKind} {a b : Int} : binInt .and k a b K = K (.int k (k.wrap ((BitVec.ofInt k.bits a &&& BitVec.ofInt k.bits b).toNat : Int))) := propext ⟨id, id⟩
theorem int_or {k : IntKind} {a b : Int} : binInt .or k a b K = K (.int k (k.wrap ((BitVec.ofInt k.bits a ||| BitVec.ofInt k.bits b).toNat : Int))) := propext ⟨id, id⟩
theorem ev_shr {k k' : IntKind} {a b : Int} : runOp C base (.shf .shr) [.d (.int k a), .d (.int k' b)] ⟨bs, fz, ar⟩ L KP = (0 ≤ b ∧ L (.d (.int k (a.fdiv (2 ^ min b.toNat k.bits)))) ⟨bs, fz, ar⟩) := propext ⟨id, id⟩
theorem ev_mkRow {sz : Nat} {z : DV} {k k' : IntKind} {n : Int} : runOp C base (.mkRow sz z) [.d (.int k n), .d (.int k' n)] ⟨bs, fz, ar⟩ L KP = (0 ≤ n ∧ n ≤ 1048576 ∧ 0 < sz ∧ z.fits sz = true ∧ L (.tsl ar.length 0 0) ⟨bs, fz, ar ++ [some ⟨sz, List.replicate n.toNat z, 0, 1⟩]⟩) :=
 propext ⟨fun h => h.2, fun h => ⟨rfl, h⟩⟩
theorem ev_slcL {sz k ver skip st : Nat} {xs : List DV} {kd : IntKind} {n : Int} (h : ar[k]? = some (some ⟨sz, xs, ver, st⟩)) (h0 : 0 ≤ n) (hn : n ≤ (xs.length - skip : Nat)) (hK : L (.tsl k ver (skip + n.toNat)) ⟨bs, fz, ar⟩) :
  runOp C base (.slcL sz) [.tsl k ver skip, .d (.int kd n)] ⟨bs, fz, ar⟩ L KP := by
 simp only [runOp, row_m, h, if_true]
 exact ⟨trivial, h0, hn, hK⟩
theorem ev_slcP {sz k ver skip st : Nat} {xs : List DV} {kd : IntKind} {n : Int} (h : ar[k]? = some (some ⟨sz, xs, ver, st⟩)) (h0 : 0 ≤ n) (hn : n ≤ (xs.length - skip : Nat)) (hK : L (.psl k ver skip n.toNat) ⟨bs, fz, ar⟩) :
  runOp C base (.slcP sz) [.tsl k ver skip, .d (.int kd n)] ⟨bs, fz, ar⟩ L KP := by
 simp only [runOp, row_m, h, if_true]
 exact ⟨trivial, h0, hn, hK⟩
theorem ev_copyD {sz k ver skip : Nat} {xs ys : List DV} {ex : Bool} (h : ar[k]? = some (some ⟨sz, xs, ver, 1⟩)) (hf : ∀ y ∈ ys, y.fits sz = true)
  (hK : L (.d (.int .i64 (min ys.length (xs.length - skip) : Nat))) ⟨bs, fz, ar.set k (some ⟨sz, xs.take skip ++ (ys.take (xs.length - skip) ++ xs.drop (skip + ys.length)), ver, 1⟩)⟩) :
  runOp C base (.copy sz) [.tsl k ver skip, .d (.slice ex ys)] ⟨bs, fz, ar⟩ L KP := by
 simp only [runOp, row_m, h, if_true, srcOf]
 exact ⟨trivial, trivial, hf, hK⟩
theorem ev_copyP {sz k ver skip skip2 len : Nat} {xs : List DV} (h : ar[k]? = some (some ⟨sz, xs, ver, 1⟩)) (hf : ∀ y ∈ (xs.drop skip2).take len, y.fits sz = true)
  (hK : L (.d (.int .i64 (min ((xs.drop skip2).take len).length (xs.length - skip) : Nat))) ⟨bs, fz, ar.set k (some ⟨sz, xs.take skip ++ (((xs.drop skip2).take len).take (xs.length - skip) ++ xs.drop (skip + ((xs.drop skip2).take len).length)), ver, 1⟩)⟩) :
  runOp C base (.copy sz) [.tsl k ver skip, .psl k ver skip2 len] ⟨bs, fz, ar⟩ L KP := by
 simp only [runOp, row_m, h, if_true, srcOf, Option.map_some]
 exact ⟨trivial, trivial, hf, hK⟩
end
end Go.Am
namespace Go.Tel
open Go.Am
theorem u64_nat {n : Nat} (h : n < 18446744073709551616) : IntKind.u64.wrap (n : Int) = n := by
 simp only [IntKind.wrap, IntKind.bits, IntKind.signed, Bool.false_and, Bool.false_eq_true, if_false]
 omega
theorem and_mask {n : Nat} (h : n < 4294967296) : IntKind.u64.wrap ((BitVec.ofInt IntKind.u64.bits (n : Int) &&& BitVec.ofInt IntKind.u64.bits 4294967295).toNat : Int) = n := by
 have e : (BitVec.ofInt IntKind.u64.bits (n : Int) &&& BitVec.ofInt IntKind.u64.bits 4294967295).toNat = n := by
  show (BitVec.ofInt 64 (n : Int) &&& BitVec.ofInt 64 4294967295).toNat = n
  rw [BitVec.toNat_and]
  have h1 : (BitVec.ofInt 64 (n : Int)).toNat = n := by
   rw [BitVec.toNat_ofInt]; omega
  have h2 : (BitVec.ofInt 64 4294967295).toNat = 2 ^ 32 - 1 := by decide
  rw [h1, h2, Nat.and_two_pow_sub_one_eq_mod]
  omega
 rw [e]; exact u64_nat (by omega)
theorem shr_32 {n : Nat} (h : n < 4294967296) : Int.fdiv (n : Int) (2 ^ min (Int.toNat 32) IntKind.u64.bits) = 0 := by
 have e : (2 : Int) ^ min (Int.toNat 32) IntKind.u64.bits = 4294967296 := by decide
 rw [e, Int.fdiv_eq_ediv_of_nonneg _ (by omega)]
 omega
set_option maxRecDepth 10000 in
theorem bits_Mul64_c (n : Nat) (h : n ≤ 1000000) : Pure C F.bits_Mul64 [.int .u64 1, .int .u64 n] (.d (.tup [.int .u64 0, .int .u64 n])) [] := by
 have a1 : IntKind.u64.wrap ((BitVec.ofInt IntKind.u64.bits 1 &&& BitVec.ofInt IntKind.u64.bits 4294967295).toNat : Int) = 1 := and_mask (n := 1) (by omega)
 have a0 : IntKind.u64.wrap ((BitVec.ofInt IntKind.u64.bits 0 &&& BitVec.ofInt IntKind.u64.bits 4294967295).toNat : Int) = 0 := and_mask (n := 0) (by omega)
 have an := and_mask (n := n) (by omega)
 have s1 : Int.fdiv 1 (2 ^ min (Int.toNat 32) IntKind.u64.bits) = 0 := shr_32 (n := 1) (by omega)
 have s0 : Int.fdiv 0 (2 ^ min (Int.toNat 32) IntKind.u64.bits) = 0 := shr_32 (n := 0) (by omega)
 have sn := shr_32 (n := n) (by omega)
 have m1 : IntKind.u64.wrap (1 * (n : Int)) = n := by rw [Int.one_mul]; exact u64_nat (by omega)
 have m0 : IntKind.u64.wrap (0 * (n : Int)) = 0 := by rw [Int.zero_mul]; rfl
 have z1 : IntKind.u64.wrap (0 + 0) = 0 := rfl
 have z2 : IntKind.u64.wrap (1 * 0) = 0 := rfl
 have z3 : IntKind.u64.wrap (0 * 0) = 0 := rfl
 have p0 : (0 : Int) ≤ 32 := by decide
 refine pure_of_pwp_d mixed rfl ok_bits_Mul64 ?_
 simp only [pc_bits_Mul64, rs_bits_Mul64, int_and, ev_shr, a1, a0, an, s1, s0, sn, m1, m0, z1, z2, z3, p0, RN, qA, qB, qC, qD, qE, qF]
set_option maxRecDepth 10000 in
theorem bits_Mul_c (n : Nat) (h : n ≤ 1000000) : Pure C F.bits_Mul [.int .u64 1, .int .u64 n] (.d (.tup [.int .u64 0, .int .u64 n])) [] := by
 refine pure_of_pwp_d mixed rfl ok_bits_Mul ?_
 simp only [pc_bits_Mul, rs_bits_Mul, RN, qA, qB, qC, qD, qE, qF]
 refine call_d rfl rfl (bits_Mul64_c n h) ?_
 simp only [RN, qA, qB, qC, qD, qE, qF]
theorem rep_step {α : Type} (T Z : α) {q N : Nat} (h : q ≤ N) : (List.replicate q T ++ List.replicate (N - q) Z).take q ++ ((List.replicate q T).take (N - q) ++ (List.replicate q T ++ List.replicate (N - q) Z).drop (q + q)) = List.replicate (q + min q (N - q)) T ++ List.replicate (N - (q + min q (N - q))) Z := by
 apply List.ext_getElem?
 intro i
 simp only [List.getElem?_append, List.getElem?_take, List.getElem?_drop, List.getElem?_replicate, List.length_append, List.length_take, List.length_replicate, List.length_drop]
 repeat' split
 all_goals (first | rfl | omega | (simp; omega))
set_option maxRecDepth 10000 in
theorem Repeat_c (t : Tn) (N : Nat) (h : N ≤ 1000) : Pure C F.slices_Repeat_api_PlateTurn [.slice false [t.dv], .int .i64 N] (.tsl 0 0 0) [⟨2, List.replicate N t.dv, 0, 1⟩] := by
 have hN : ¬ ((N : Int) < 0) := by omega
 have c1 : IntKind.u64.wrap ((0 + 1 : Nat) : Int) = 1 := by decide
 have c2 : IntKind.u64.wrap (N : Int) = N := u64_nat (by omega)
 have c3 : IntKind.i64.wrap (N : Int) = N := w64_in (by omega)
 have g0 : ¬ ((0 : Int) > 0) := by decide
 have g1 : ¬ ((N : Int) > 9223372036854775807) := by omega
 refine pure_of_pwp mixed rfl ok_slices_Repeat_api_PlateTurn ?_
 simp only [pc_slices_Repeat_api_PlateTurn, rs_slices_Repeat_api_PlateTurn, hN, c1, RN, qA, qB, qC, qD, qE, qF]
 refine call_d rfl rfl (by simp only [List.map_cons, List.map_nil, DV.strip, c2]; exact bits_Mul_c N (by omega)) ?_
 have n0 : (0 : Int) ≤ (N : Int) := by omega
 have n1 : (N : Int) ≤ 1048576 := by omega
 have hz : DV.fits 2 (.agg [.int .i64 0, .int .i64 0]) = true := rfl
 simp only [c2, c3, g0, g1, ev_mkRow, n0, n1, hz, Int.toNat_natCast, RN, qA, qB, qC, qD, qE, qF]
 refine ev_copyD (xs := List.replicate N (.agg [.int .i64 0, .int .i64 0])) rfl (by simp [dv_Tn]; rfl) ?_
 simp only [RN, qA, qB, qC, qD, qE, qF]
 have e0 : [t.dv].take N ++ (List.replicate N (DV.agg [.int .i64 0, .int .i64 0])).drop 1 = List.replicate (min 1 N) t.dv ++ List.replicate (N - min 1 N) (.agg [.int .i64 0, .int .i64 0]) := by
  rcases N with _ | N
  ·rfl
  ·rw [show min 1 (N + 1) = 1 by omega]; simp
 refine pwp_while (fun (q : Nat) => ⟨[(7, .tsl 1 0 0), (8, .d (.int .i64 q))], ⟨[], [], [some ⟨2, [], 0, 0⟩, some ⟨2, List.replicate q t.dv ++ List.replicate (N - q) (.agg [.int .i64 0, .int .i64 0]), 0, 1⟩]⟩⟩)
  (fun q => q ≤ N ∧ (0 < N → 0 < q)) (fun q => N - q) (min 1 N) (by simp only [List.length_replicate, Nat.sub_zero, e0]) ⟨by omega, by omega⟩ (fun q hq => ?_)
 have hl : (((List.replicate q t.dv ++ List.replicate (N - q) (DV.agg [.int .i64 0, .int .i64 0])).length - 0 : Nat) : Int) = N := by simp; omega
 by_cases hqN : q < N
 ·have b1 : (q : Int) < N := by omega
  have b0 : (0 : Int) ≤ (q : Int) := by omega
  have b2 : (q : Int) ≤ (((List.replicate q t.dv ++ List.replicate (N - q) (DV.agg [.int .i64 0, .int .i64 0])).length - 0 : Nat) : Int) := by rw [hl]; omega
  have e1 := rep_step t.dv (DV.agg [.int .i64 0, .int .i64 0]) hq.1
  have tk : (List.replicate q t.dv ++ List.replicate (N - q) (DV.agg [.int .i64 0, .int .i64 0])).take q = List.replicate q t.dv := by
   rw [List.take_append_of_le_length (by simp), List.take_of_length_le (by simp)]
  have hll : (List.replicate q t.dv ++ List.replicate (N - q) (DV.agg [.int .i64 0, .int .i64 0])).length = N := by simp; omega
  simp only [hl, b1, RN, qA, qB, qC, qD, qE, qF]
  refine ev_slcL rfl b0 b2 ?_
  simp only [RN, qA, qB, qC, qD, qE, qF]
  refine ev_slcP rfl b0 b2 ?_
  simp only [Int.toNat_natCast, RN, qA, qB, qC, qD, qE, qF]
  refine ev_copyP rfl (by rw [List.drop_zero, tk]; intro y hy; rw [List.eq_of_mem_replicate hy]; rfl) ?_
  rw [List.drop_zero, tk, hll, List.length_replicate]
  rw [tk] at e1
  have w1 : IntKind.i64.wrap ((q : Int) + ((min q (N - q) : Nat) : Int)) = ((q + min q (N - q) : Nat) : Int) := by rw [w64_in (by omega)]; omega
  simp only [w1, e1, RN, qA, qB, qC, qD, qE, qF]
  refine wh_same (q + min q (N - q)) (by have := hq.2 (by omega); omega) rfl ⟨by omega, fun _ => by have := hq.2 (by omega); omega⟩ (by simp) (by simp) (by rfl) (by rfl)
 ·obtain rfl : q = N := by omega
  have b1 : ¬ ((q : Int) < q) := by omega
  simp only [hl, b1, RN, qA, qB, qC, qD, qE, qF]
  exact sel_one (k := 1) (A := ⟨2, _, 0, 1⟩) rfl rfl (Nat.zero_le _) (by simp)
end Go.Tel
open Nat renaming reduceBEq → qA, reduceAdd → qB, reduceSub → qC, reduceEqDiff → qD, reduceLT → qE, reduceLeDiff → qF
namespace Go.Am
section
variable {C : Ctx} {base : Nat} {KP : DV → Mem → Prop} {L : PV → Mem → Prop} {M : Mem}
theorem ev_mkI_d {t : TypeId} {x : DV} : runOp C base (.mkI t) [.d x] M L KP = L (.d (.iface t x)) M := by
 rw [ev_mkI (d := x) rfl, show M.frz [PV.d x] = M from frz_d (ds := [x])]
theorem ev_panic_d {t : TypeId} {x : DV} : runOp C base .panic [.d (.iface t x)] M L KP = KP (.iface t x) M := by
 simp only [runOp, datum]
 rw [show M.frz [PV.d (.iface t x)] = M from frz_d (ds := [.iface t x])]
end
theorem Weak.keep {nb na : Nat} {ks : List Nat} {env : List (Nat × PV)} {bs : List (Option (List PV))} {fz : List Nat} {ar : List (Option Arr)} (h1 : nb ≤ bs.length) (h2 : na ≤ ar.length) (h3 : (env.all fun p => p.2.upto bs.length ar.length) = true)
  (h4 : (bs.all fun c => (c.getD []).all fun p => p.upto bs.length ar.length) = true) : Weak nb na ⟨env, ⟨bs, fz, ar⟩⟩ ⟨keepEnv env ks, ⟨bs, fz.filter (fun b => decide (b < bs.length)), ar⟩⟩ := by
 refine .inr ⟨bs.length, ar.length, h1, h2, by simp, fun t => ?_, fun cs hcs c hc => ?_⟩
 ·rcases look_keepEnv (l := env) (ks := ks) t with h | h
  ·exact .inr ⟨h, by rw [h]; exact look_all h3 t⟩
  ·exact .inl h
 ·simp only [List.all_eq_true] at h4
  exact h4 cs hcs c hc
theorem wh_keep {nb na : Nat} {env : List (Nat × PV)} {bs : List (Option (List PV))} {fz : List Nat} {ar : List (Option Arr)} {α : Type} {a : α} {E : α → St} {P : α → Prop} {μ : α → Nat} (ks : List Nat) (a' : α) (hn : μ a' < μ a) (hs : (⟨keepEnv env ks, ⟨bs, fz.filter (fun b => decide (b < bs.length)), ar⟩⟩ : St) = E a') (hP : P a')
  (h1 : nb ≤ bs.length) (h2 : na ≤ ar.length) (h3 : (env.all fun p => p.2.upto bs.length ar.length) = true) (h4 : (bs.all fun c => (c.getD []).all fun p => p.upto bs.length ar.length) = true) :
  ∃ n' s'', n' < μ a ∧ Weak nb na ⟨env, ⟨bs, fz, ar⟩⟩ s'' ∧ whJ E P μ n' s'' := ⟨μ a', _, hn, Weak.keep h1 h2 h3 h4, a', rfl, hs, hP⟩
theorem store_et {bs : List (Option (List PV))} {fz : List Nat} {ar : List (Option Arr)} {K : Mem → Prop} {k ver i : Nat} {xs : List Go.Tel.Tn} {g : Go.Tel.Tn} (h : ar[k]? = some (some ⟨2, xs.map Go.Tel.Tn.dv, ver, 1⟩)) (hi : i < xs.length)
  (hK : K ⟨bs, fz, ar.set k (some ⟨2, (xs.set i g).map Go.Tel.Tn.dv, ver, 1⟩)⟩) : runStore 2 (.eptr k ver i 0) (.d (.agg [.int .i64 g.num, .int .i64 g.den])) ⟨bs, fz, ar⟩ K := by
 simp only [runStore, row_m, h]
 have hd : (xs.map Go.Tel.Tn.dv).getD i default = Go.Tel.Tn.dv (xs.getD i default) := Go.Tel.getD_map hi
 have ha : allD [PV.d (.int .i64 g.num), PV.d (.int .i64 g.den)] = some [.int .i64 g.num, .int .i64 g.den] := rfl
 have hs : (xs.map Go.Tel.Tn.dv).set i (.agg [.int .i64 g.num, .int .i64 g.den]) = (xs.set i g).map Go.Tel.Tn.dv := by rw [List.map_set, Go.Tel.dv_Tn]
 simp only [if_true, PV.cells, List.map_cons, List.map_nil, ha, hd, Go.Tel.dv_Tn, setCells, hs, DV.cells, splice, List.take_zero, List.nil_append, List.length_cons, List.length_nil, Nat.zero_add, List.drop_succ_cons, List.drop_zero, List.append_nil]
 exact ⟨trivial, by decide, trivial, rfl, Nat.le_refl _, hK⟩
end Go.Am
namespace Go.Tel
open Go.Am
theorem cellsEq_tn (x y : Tn) : cellsEq [1, 1] [.int .i64 x.num, .int .i64 x.den] [.int .i64 y.num, .int .i64 y.den] = some (decide (x = y)) := by
 obtain ⟨a, b⟩ := x
 obtain ⟨c, d⟩ := y
 by_cases h1 : a = c <;> by_cases h2 : b = d <;> simp [cellsEq, h1, h2]
def tnOk (q : Tn) : Bool := decide (q.num.natAbs ≤ 1000000000000000) && decide (1 ≤ q.den) && decide (q.den ≤ 1000000000000000)
inductive RtR where
 | go (out : List Tn) (left : List Int)
 | locked (a b : Int)
 | none
 deriving DecidableEq, Inhabited
def Piece.rtIn (p : Piece) (a : Int) : Nat → Nat → List Tn → List Int → RtR
 | 0, _, out, left => .go out left
 | k + 1, b, out, left =>
  if (b : Int) = a then p.rtIn a k (b + 1) out left
  else if p.mesh a b && p.sleeved a b then .locked a b
  else if tnOk (out.getD a.toNat default) && decide (left.length ≤ 1000) then
   if (p.joined a b (out.getD a.toNat default)).2 = false then p.rtIn a k (b + 1) out left
   else if (out.getD b default).num = 0 then p.rtIn a k (b + 1) (out.set b (p.joined a b (out.getD a.toNat default)).1) (left ++ [(b : Int)])
   else if out.getD b default = (p.joined a b (out.getD a.toNat default)).1 then p.rtIn a k (b + 1) out left else .locked a b
  else .none
def Piece.rtF (p : Piece) : Nat → List Tn → List Int → RtR
 | _, out, [] => .go out []
 | 0, _, _ :: _ => .none
 | k + 1, out, a :: l => match p.rtIn a p.ws.length 0 out l with
  | .go out' l' => p.rtF k out' l'
  | .locked x y => .locked x y
  | .none => .none
def Piece.rt (p : Piece) (w : Int) : RtR := p.rtF (p.ws.length + 1) ((List.replicate p.ws.length ⟨0, 1⟩).set w.toNat ⟨1, 1⟩) [w]
def rtB (p : Piece) (w : Int) : List (Option (List PV)) := [some [.d (.int .i64 p.w), .d (.int .i64 p.h), .d (.int .i64 p.pl), .d (.int .i64 p.ga), .d (.int .i64 p.po), .d (.slice false (p.cs.map Pt.dv)), .d (.slice false (p.ws.map Wh.dv)), .d (.slice false (p.ms.map Ms.dv))],
 some [.d (.int .i64 w)], some [.d (.slice true [])], some [.d (.int .i64 0)]]
def rtM (p : Piece) (w : Int) : Mem := ⟨rtB p w, [1, 0], []⟩
set_option maxRecDepth 10000 in
set_option maxHeartbeats 2000000 in
theorem laid_ratios_sc (l : Laid) (hg : l.p.good) (hf : l.fine) (ht : ∀ w ∈ l.p.ws, 1 ≤ w.teeth) (hl : l.p.ws.length ≤ 1000) (w : Int) (hw : l.p.isW w) (p : Piece) {K : PV → Mem → Prop} {KP : DV → Mem → Prop}
  (hn : l.p.rt w ≠ .none)
  (hK : ∀ out left r2, l.p.rt w = .go out left → K (.tsl 0 0 0) ⟨rtB p w ++ [some (l.cells.map .d)], [4, 1, 0], [some ⟨2, out.map Tn.dv, 0, 1⟩, r2]⟩)
  (hP : ∀ a b r1 r2, l.p.rt w = .locked a b → KP (.iface T.plate_locked (.agg [.int .i64 a, .int .i64 b])) ⟨rtB p w ++ [some (l.cells.map .d)], [4, 1, 0], [r1, r2]⟩)
  (hP2 : ∀ a b x r1 r2, l.p.rt w = .locked a b → KP (.iface T.plate_locked (.agg [.int .i64 a, .int .i64 b])) ⟨rtB p w ++ [some (l.cells.map .d), some x], [5, 4, 1, 0], [r1, r2]⟩) :
  SC Go.Tel.C F.plate_laid_ratios [.d l.dv, .d (.int .i64 w)] (rtM p w) K KP := by
 obtain ⟨w1, w2⟩ := hw
 obtain ⟨wn, rfl⟩ := Int.eq_ofNat_of_zero_le w1
 rw [Int.toNat_natCast] at w2
 refine sc_of_pwp mixed rfl ok_plate_laid_ratios ?_
 simp only [pc_plate_laid_ratios, rs_plate_laid_ratios, dv_Laid, rtM, rtB, List.length_map, RN, qA, qB, qC, qD, qE, qF]
 have hR := Repeat_c ⟨0, 1⟩ l.p.ws.length hl
 simp only [dv_Tn] at hR
 refine ⟨rfl, call_r rfl rfl hR (by simp) ?_⟩
 simp only [shift_t, w1, Int.toNat_natCast, List.length_replicate, w2, List.length_map, RN, qA, qB, qC, qD, qE, qF]
 have hrep : List.replicate l.p.ws.length (DV.agg [.int .i64 0, .int .i64 1]) = (List.replicate l.p.ws.length (⟨0, 1⟩ : Tn)).map Tn.dv := by rw [List.map_replicate, dv_Tn]
 rw [hrep]
 refine store_et (g := ⟨1, 1⟩) rfl (by simpa using w2) ?_
 simp only [RN, qA, qB, qC, qD, qE, qF]
 refine ⟨rfl, ?_⟩
 simp only [ev_asgG_d]
 refine ⟨by decide, by simp [DV.strip, fits_int], ?_⟩
 simp only [RN, qA, qB, qC, qD, qE, qF]
 refine pwp_while (fun (q : Nat × List Tn × List Int × Nat × Nat) => ⟨[(2, .d (.cptr l.cells)), (5, .tsl 0 0 0), (6, .tsl 1 q.2.2.2.2 q.2.2.2.1)],
   ⟨rtB p wn ++ [some (l.cells.map .d)], [4, 1, 0], [some ⟨2, q.2.1.map Tn.dv, 0, 1⟩, some ⟨1, q.2.2.1.map intDV, q.2.2.2.2, 0⟩]⟩⟩)
  (fun q => q.2.2.2.1 ≤ q.2.2.1.length ∧ q.2.1.length = l.p.ws.length ∧ q.2.2.1.length ≤ 2000 ∧ (∀ x ∈ q.2.2.1, l.p.isW x) ∧ l.p.rt wn = l.p.rtF q.1 q.2.1 (q.2.2.1.drop q.2.2.2.1)) (fun q => q.1)
  (l.p.ws.length + 1, (List.replicate l.p.ws.length ⟨0, 1⟩).set wn ⟨1, 1⟩, [(wn : Int)], 0, 0) rfl ⟨by simp, by simp, by simp, by simp [Piece.isW, w2], rfl⟩ (fun q hq => ?_)
 obtain ⟨k, out, ls, s, ver⟩ := q
 obtain ⟨q1, q2, q3, q4, q5⟩ := hq
 simp only at q1 q2 q3 q4 q5
 by_cases hs : s < ls.length
 ·have b1 : ((ls.length - s : Nat) : Int) > 0 := by omega
  have b0 : (0 : Int) ≤ 0 := by decide
  have b2 : s + Int.toNat 0 < ls.length := hs
  simp only [List.length_map, b1, b0, rtB, hs, Int.toNat_zero, getD_map, dv_int, Laid.cells, RN, qA, qB, qC, qD, qE, qF]
  refine ev_slcL rfl (by decide) (by simp; omega) ?_
  simp only [List.length_map, RN, qA, qB, qC, qD, qE, qF]
  rw [drop_cons hs] at q5
  cases k with
  | zero => exact absurd (by rw [q5, Piece.rtF]) hn
  | succ k =>
  rw [Piece.rtF] at q5
  have hnn : l.p.rtIn (ls.getD s default) l.p.ws.length 0 out (ls.drop (s + 1)) ≠ .none := fun h => hn (by rw [q5, h])
  have haW : l.p.isW (ls.getD s default) := q4 _ (getD_mem hs)
  generalize ls.getD s default = a at *
  refine pwp_range l.p.ws.length (fun i (r : List Tn × List Int × Nat × Nat) => ⟨[(2, .d (.cptr l.cells)), (5, .tsl 0 0 0), (6, .tsl 1 r.2.2.2 r.2.2.1), (7, .d (.int .i64 a)), (35, .d (.int .i64 l.p.ws.length)), (36, .d (.int .i64 i))],
   ⟨rtB p wn ++ [some (l.cells.map .d)], [4, 1, 0], [some ⟨2, r.1.map Tn.dv, 0, 1⟩, some ⟨1, r.2.1.map intDV, r.2.2.2, 0⟩]⟩⟩)
   (fun i r => r.2.2.1 ≤ r.2.1.length ∧ r.1.length = l.p.ws.length ∧ r.2.1.length ≤ 2000 ∧ (∀ x ∈ r.2.1, l.p.isW x) ∧ l.p.rtIn a l.p.ws.length 0 out (ls.drop (s + 1)) = l.p.rtIn a (l.p.ws.length - i) i r.1 (r.2.1.drop r.2.2.1))
   0 (out, ls, s + 1, ver) (Nat.zero_le _) rfl ⟨by simp only; omega, q2, q3, q4, rfl⟩ (fun i r h1 hix => ?_) (fun r hix => ?_)
  ·obtain ⟨out', ls', s', ver'⟩ := r
   obtain ⟨r1, r2, r3, r4, r5⟩ := hix
   simp only at r1 r2 r3 r4 r5
   obtain ⟨h2, h3, h6⟩ := rng h1 (by omega)
   rw [show l.p.ws.length - i = (l.p.ws.length - (i + 1)) + 1 by omega, Piece.rtIn] at r5
   by_cases he : (i : Int) = a
   ·have hb : ((i : Int) == a) = true := by simp [he]
    rw [if_pos he] at r5
    simp only [h2, hb, h6, RN, qA, qB, qC, qD, qE, qF]
    exact up_same (out', ls', s', ver') h1 rfl ⟨r1, r2, r3, r4, r5⟩ (by simp [rtB]) (by simp) rfl rfl
   ·have hb : ((i : Int) == a) = false := by simp [he]
    rw [if_neg he] at r5
    have hiW : l.p.isW (i : Int) := ⟨h3, by simpa using h1⟩
    simp only [h2, hb, rtB, Laid.cells, RN, qA, qB, qC, qD, qE, qF]
    refine call_d rfl rfl (laid_mesh_c l hf a i) ?_
    have fin : l.p.rtIn a l.p.ws.length 0 out (ls.drop (s + 1)) = .locked a i → l.p.rt wn = .locked a i := fun h => by rw [q5, h]
    have hnl : a.toNat < out'.length := by rw [r2]; exact haW.2
    have hil : i < out'.length := by rw [r2]; exact h1
    have ha0 : (0 : Int) ≤ a := haW.1
    by_cases hms : (l.p.mesh a i && l.p.sleeved a i) = true
    ·rw [if_pos hms] at r5
     obtain ⟨hm, hsl⟩ : l.p.mesh a i = true ∧ l.p.sleeved a i = true := by simpa using hms
     rw [hm]
     simp only [RN, qA, qB, qC, qD, qE, qF]
     refine call_d rfl rfl (laid_sleeved_c l a i haW hiW) ?_
     rw [hsl]
     simp only [ev_mkI_d, ev_panic_d, RN, qA, qB, qC, qD, qE, qF]
     exact hP a i _ _ (fin r5)
    rw [if_neg hms] at r5
    by_cases hok : (tnOk (out'.getD a.toNat default) && decide ((ls'.drop s').length ≤ 1000)) = true
    case neg => rw [if_neg hok] at r5; exact absurd r5 hnn
    rw [if_pos hok] at r5
    obtain ⟨hq1, hq2⟩ : tnOk (out'.getD a.toNat default) = true ∧ (ls'.drop s').length ≤ 1000 := by simpa using hok
    obtain ⟨⟨hq3, hq4⟩, hq5⟩ : ((out'.getD a.toNat default).num.natAbs ≤ 1000000000000000 ∧ 1 ≤ (out'.getD a.toNat default).den) ∧ (out'.getD a.toNat default).den ≤ 1000000000000000 := by simpa [tnOk] using hq1
    have hj := laid_joined_c l hg hf a i haW hiW (ht _ (getD_mem hiW.2)) (out'.getD a.toNat default) hq3 ⟨hq4, hq5⟩
    have hd2 : 2 ≤ ((out'.map Tn.dv).getD a.toNat default).cells.length := by rw [getD_map hnl, dv_Tn]; exact Nat.le_refl _
    have hd3 : DV.agg (List.take 2 ((out'.map Tn.dv).getD a.toNat default).cells) = (out'.getD a.toNat default).dv := by rw [getD_map hnl, dv_Tn]; rfl
    have hme : l.p.mesh a i = true → l.p.sleeved a i = false := fun h => by simpa [h] using hms
    generalize l.p.joined a i (out'.getD a.toNat default) = jn at *
    obtain ⟨by_, is⟩ := jn
    simp only at r5
    cases hm : l.p.mesh a i
    case' true =>
     simp only [RN, qA, qB, qC, qD, qE, qF]
     refine call_d rfl rfl (laid_sleeved_c l a i haW hiW) ?_
     rw [hme hm]
    all_goals
     simp only [List.length_map, ha0, hnl, hd2, hd3, RN, qA, qB, qC, qD, qE, qF]
     refine call_d rfl rfl hj ?_
     cases is
     ·rw [if_pos rfl] at r5
      simp only [dv_Tn, h6, RN, qA, qB, qC, qD, qE, qF]
      exact up_take 5 2 (out', ls', s', ver') h1 rfl ⟨r1, r2, r3, r4, r5⟩ (by simp) (by simp) rfl rfl
     ·rw [if_neg (by decide)] at r5
      by_cases hz : (out'.getD i default).num = 0
      ·have hbz : ((out'.getD i default).num == 0) = true := beq_iff_eq.2 hz
       rw [if_pos hz] at r5
       simp only [dv_Tn, h3, Int.toNat_natCast, List.length_map, getD_map, hil, hbz, RN, qA, qB, qC, qD, qE, qF]
       refine store_et (g := by_) rfl hil ?_
       simp only [ev_mkSl1, fits_int, forall_eq, DV.strip, dcells_int, List.length_map, RN, qA, qB, qC, qD, qE, qF]
       refine ⟨by simp, by omega, ?_⟩
       simp only [h6, RN, qA, qB, qC, qD, qE, qF]
       refine up_take 5 2 (out'.set i by_, ls'.drop s' ++ [(i : Int)], 0, ver' + 1) h1 ?_ ⟨Nat.zero_le _, by simp [r2], by simp only [List.length_append, List.length_cons, List.length_nil]; omega, ?_, r5⟩ (by simp) (by simp) rfl rfl
       ·simp only [List.map_append, List.map_drop, List.map_cons, List.map_nil, dv_int]; rfl
       ·intro x hx
        rcases List.mem_append.1 hx with hx | hx
        ·exact r4 x (List.mem_of_mem_drop hx)
        ·rw [List.mem_singleton.1 hx]; exact hiW
      ·have hbz : ((out'.getD i default).num == 0) = false := beq_eq_false_iff_ne.2 hz
       rw [if_neg hz] at r5
       simp only [dv_Tn, h3, Int.toNat_natCast, List.length_map, getD_map, hil, hbz, RN, qA, qB, qC, qD, qE, qF]
       rw [ev_binA (cellsEq_tn _ _)]
       by_cases hq : out'.getD i default = by_
       ·rw [if_pos hq] at r5
        rw [decide_eq_true hq]
        have hx : (true != true) = false := rfl
        simp only [h6, hx, RN, qA, qB, qC, qD, qE, qF]
        exact up_take 5 2 (out', ls', s', ver') h1 rfl ⟨r1, r2, r3, r4, r5⟩ (by simp) (by simp) rfl rfl
       ·rw [if_neg hq] at r5
        rw [decide_eq_false hq]
        have hx : (false != true) = true := rfl
        simp only [ev_mkI_d, ev_panic_d, hx, RN, qA, qB, qC, qD, qE, qF]
        exact hP2 a i _ _ _ (fin r5)
  ·obtain ⟨out', ls', s', ver'⟩ := r
   obtain ⟨r1, r2, r3, r4, r5⟩ := hix
   simp only at r1 r2 r3 r4 r5
   rw [Nat.sub_self, Piece.rtIn] at r5
   rw [r5] at q5
   simp only [Int.lt_irrefl, RN, qA, qB, qC, qD, qE, qF]
   exact wh_keep (a := (k + 1, out, ls, s, ver)) (μ := fun q => q.1) [2, 5, 6] (k, out', ls', s', ver') (Nat.lt_succ_self _) rfl ⟨r1, r2, r3, r4, q5⟩ (by simp [rtB]) (by simp) rfl rfl
 ·have hs' : s = ls.length := by omega
  have b1 : ¬ ((ls.length - s : Nat) : Int) > 0 := by omega
  simp only [List.length_map, b1, RN, qA, qB, qC, qD, qE, qF]
  rw [hs', List.drop_length, Piece.rtF] at q5
  exact hK out [] _ q5
end Go.Tel
open Nat renaming reduceBEq → qA, reduceAdd → qB, reduceSub → qC, reduceEqDiff → qD, reduceLT → qE, reduceLeDiff → qF
namespace Go.Am
theorem ev_callVf {C : Ctx} {base : Nat} {M : Mem} {K : PV → Mem → Prop} {KP : DV → Mem → Prop} {f : FuncId} {fs cs args : List PV} : runOp C base .callV (.func (.func f) fs cs :: args) M K KP = (callable C.P f = true ∧ SC C f (fs ++ args ++ cs) M K KP) := propext ⟨id, id⟩
section
variable {C : Ctx} {base te t5 b : Nat} {pc3 : PCode} {K : PV → Mem → Prop} {KP : DV → Mem → Prop} {env : List (Nat × PV)} {bs : List (Option (List PV))} {fz : List Nat} {ar : List (Option Arr)} {M : Mem}
theorem tryQ_ret : tryQ C te t5 pc3 b K .ret ⟨env, ⟨bs, fz, ar⟩⟩ = pwp C bs.length ar.length pc3 (tryEnd te b K) ⟨[(0, .ptr b 0), (t5, .d .nilIface)], ⟨bs, fz, ar⟩⟩ := propext ⟨id, id⟩
theorem tryQ_panic {d : DV} : tryQ C te t5 pc3 b K (.panic d) ⟨env, ⟨bs, fz, ar⟩⟩ = pwp C bs.length ar.length pc3 (tryEnd te b K) ⟨[(0, .ptr b 0), (t5, .d d)], ⟨bs, fz, ar⟩⟩ := propext ⟨id, id⟩
theorem tryEnd_normal : tryEnd te b K .normal ⟨env, ⟨bs, fz, ar⟩⟩ = runLoad false 1 (.ptr b 0) ⟨bs, fz, ar⟩ fun v => K v ⟨bs, fz, ar⟩ := propext ⟨id, id⟩
theorem ev_isNilI_n {neq : Bool} : runOp C base (.isNilI neq) [.d .nilIface, .d .nilIface] M K KP = K (.d (.bool !neq)) M := propext ⟨id, id⟩
theorem ev_isNilI_i {neq : Bool} {t : TypeId} {v : DV} : runOp C base (.isNilI neq) [.d (.iface t v), .d .nilIface] M K KP = K (.d (.bool neq)) M := propext ⟨id, id⟩
theorem ev_tas_eq {t : TypeId} {z v : DV} : runOp C base (.tas t z) [.d (.iface t v)] M K KP = K (.d (.tup [v, .bool true])) M := by simp [runOp]
theorem ev_tas_ne {t t' : TypeId} {z v : DV} (h : (t' == t) = false) : runOp C base (.tas t z) [.d (.iface t' v)] M K KP = K (.d (.tup [z, .bool false])) M := by
 have h' : ¬ t' = t := by simpa using h
 simp [runOp, h']
end
end Go.Am
namespace Go.Tel
open Go.Am
def slD (l : Option (List Tn)) : DV := match l with | some l => .slice false (l.map Tn.dv) | none => .slice true []
def Piece.ratios (p : Piece) (w : Int) : Option (List Tn) × Int :=
 if p.ok && inR w 0 (p.ws.length - 1) then (match p.rt w with | .go out _ => (some out, 0) | _ => (none, 7)) else (none, 2)
set_option maxRecDepth 10000 in
set_option maxHeartbeats 2000000 in
theorem Ratios_c (p : Piece) (hc : p.cs.length ≤ 1000) (hw : p.ws.length ≤ 1000) (hm : p.ms.length ≤ 1000) (w : Int) (hn : p.ok = true → p.isW w → p.rt w ≠ .none) :
  Pure C F.plate_Ratios [p.dv, .int .i64 w] (.d (.tup [slD (p.ratios w).1, .int .i64 (p.ratios w).2])) [] := by
 refine pure_of_pwp_d mixed rfl ok_plate_Ratios ?_
 simp only [pc_plate_Ratios, rs_plate_Ratios, dv_Piece, RN, qA, qB, qC, qD, qE, qF]
 refine call_d rfl rfl (isPiece_c p hc hw hm) ?_
 cases hok : p.ok
 ·simp only [RN, qA, qB, qC, qD, qE, qF]
  rw [Piece.ratios, hok]; rfl
 simp only [RN, qA, qB, qC, qD, qE, qF]
 refine call_d rfl rfl (isWheel_c p w (by omega)) ?_
 cases hwi : inR w 0 (p.ws.length - 1)
 ·simp only [RN, qA, qB, qC, qD, qE, qF]
  rw [Piece.ratios, hok, hwi]; rfl
 have hW : p.isW w := by simp only [inR, Bool.and_eq_true, decide_eq_true_eq] at hwi; exact ⟨by omega, by omega⟩
 simp only [allD_p, Option.map_none, List.take_zero, List.drop_zero, RN, qA, qB, qC, qD, qE, qF]
 refine try_sc mixed ok_plate_try ?_
 simp only [pc_plate_try_0, RN, qA, qB, qC, qD, qE, qF]
 refine ⟨3, rfl, ?_⟩
 simp only [pc_plate_try_2, ev_callVf, RN, qA, qB, qC, qD, qE, qF]
 refine ⟨by kernel_rfl, sc_of_pwp mixed rfl ok_plate_Ratios_1 ?_⟩
 simp only [pc_plate_Ratios_1, rs_plate_Ratios_1, RN, qA, qB, qC, qD, qE, qF]
 refine call_d rfl rfl (lay_c p [] hm (by simp)) ?_
 have hgood := Piece.ok_good hok
 have h0 : ((0 : Int) != 0) = false := rfl
 have h7 : ((7 : Int) != 0) = true := rfl
 refine laid_ratios_sc (p.laid []) hgood (Piece.laid_fine p []) (fun x hx => by have := (Piece.ok_teeth hok x hx).1; omega) hw w hW p (hn hok hW) (fun out left r2 hr => ?_) (fun a b r1 r2 hr => ?_) (fun a b x r1 r2 hr => ?_)
 ·simp only [rtB, cells_t, one_t, RN, qA, qB, qC, qD, qE, qF]
  refine ⟨trivial, ?_⟩
  simp only [tryQ_ret, pc_plate_try_1_3, ev_isNilI_n, tryEnd_normal, h0, RN, qA, qB, qC, qD, qE, qF]
  refine frzV_t rfl ?_
  simp only [RN, qA, qB, qC, qD, qE, qF]
  rw [Piece.ratios, hok, hwi, show p.rt w = .go out left from hr]
  rfl
 ·simp only [rtB, tryQ_panic, pc_plate_try_1_3, ev_isNilI_i, ev_tas_eq, tryEnd_normal, h7, RN, qA, qB, qC, qD, qE, qF]
  rw [Piece.ratios, hok, hwi, show p.rt w = .locked a b from hr]
  rfl
 ·simp only [rtB, tryQ_panic, pc_plate_try_1_3, ev_isNilI_i, ev_tas_eq, tryEnd_normal, h7, RN, qA, qB, qC, qD, qE, qF]
  rw [Piece.ratios, hok, hwi, show p.rt w = .locked a b from hr]
  rfl
end Go.Tel
open Nat renaming reduceBEq → qA, reduceAdd → qB, reduceSub → qC, reduceEqDiff → qD, reduceLT → qE, reduceLeDiff → qF
namespace Go.Am
theorem frz_t {bs : List (Option (List PV))} {fz : List Nat} {ar : List (Option Arr)} {k ver skip sz st : Nat} {xs : List DV} (h : ar[k]? = some (some ⟨sz, xs, ver, st⟩)) :
  (⟨bs, fz, ar⟩ : Mem).frz [.tsl k ver skip] = ⟨bs, fz, ar.set k (some ⟨sz, xs, ver, 2⟩)⟩ := by
 have hk := (List.getElem?_eq_some_iff.1 h).1
 simp only [Mem.frz, refsB, refsA, List.flatMap_cons, List.flatMap_nil, List.append_nil, List.nil_append, frzA, List.foldl_cons, List.foldl_nil]
 congr 1
 apply List.ext_getElem?
 intro i
 rw [List.getElem?_modify, List.getElem?_set]
 by_cases hi : k = i
 ·subst hi
  simp [h, hk]
  exact ⟨_, (List.getElem?_eq_some_iff.1 h).2, rfl, rfl, rfl⟩
 ·simp [hi]
section
variable {C : Ctx} {base : Nat} {KP : DV → Mem → Prop} {L : PV → Mem → Prop} {bs : List (Option (List PV))} {fz : List Nat} {ar : List (Option Arr)}
theorem ev_slcD_ht {sz k ver st : Nat} {xs : List DV} {kd : IntKind} {n : Int} (h : ar[k]? = some (some ⟨sz, xs, ver, st⟩)) (h0 : 0 ≤ n) (hn : n ≤ (xs.length : Nat)) (hK : L (.d (.slice false (xs.take n.toNat))) ⟨bs, fz, ar.set k (some ⟨sz, xs, ver, 2⟩)⟩) :
  runOp C base (.slcD sz false true false) [.tsl k ver 0, .d (.int kd n)] ⟨bs, fz, ar⟩ L KP := by
 simp only [runOp, runSlcD, optInt, row_m, h, if_true, frz_t h, List.drop_zero, Nat.sub_zero, Option.getD_none]
 refine ⟨trivial, trivial, Int.le_refl _, h0, hn, ?_, hK⟩
 intro m' hm; cases hm
theorem ev_clr {sz k ver skip : Nat} {xs : List DV} {z : DV} (h : ar[k]? = some (some ⟨sz, xs, ver, 1⟩)) (hz : z.fits sz = true) (hK : L (.d (.tup [])) ⟨bs, fz, ar.set k (some ⟨sz, xs.take skip ++ List.replicate (xs.length - skip) z, ver, 1⟩)⟩) :
  runOp C base (.clr sz z) [.tsl k ver skip] ⟨bs, fz, ar⟩ L KP := by
 simp only [runOp, row_m, h, if_true]
 exact ⟨trivial, trivial, hz, hK⟩
end
end Go.Am
namespace Go.Tel
open Go.Am
def cmpct : Int → List Int → List Int
 | _, [] => []
 | p, x :: l => if x = p then cmpct p l else x :: cmpct x l
def compactL : List Int → List Int
 | [] => []
 | x :: l => x :: cmpct x l
theorem take_set_snoc {α : Type} {l : List α} {i : Nat} {x : α} (h : i < l.length) : (l.set i x).take (i + 1) = l.take i ++ [x] := by
 apply List.ext_getElem?
 intro j
 rw [List.getElem?_take, List.getElem?_append, List.getElem?_set, List.length_take]
 by_cases h1 : j < i
 ·rw [if_pos (by omega), if_neg (by omega), if_pos (by omega), List.getElem?_take, if_pos h1]
 ·by_cases h2 : j = i
  ·subst h2
   rw [if_pos (by omega), if_pos rfl, if_pos h, if_neg (by omega), show j - min j l.length = 0 by omega]
   rfl
  ·rw [if_neg (by omega), if_neg (by omega), List.getElem?_eq_none (by simp; omega)]
theorem drop_next {α : Type} {l r : List α} {m : Nat} (h : l.drop m = r.drop m) : l.drop (m + 1) = r.drop (m + 1) := by
 have := congrArg (List.drop 1) h
 rwa [List.drop_drop, List.drop_drop] at this
theorem drop_set_lt {α : Type} {l : List α} {i m : Nat} {x : α} (h : i < m) : (l.set i x).drop m = l.drop m := by
 apply List.ext_getElem?
 intro j
 rw [List.getElem?_drop, List.getElem?_drop, List.getElem?_set, if_neg (by omega)]
theorem getD_of_drop {α : Type} [Inhabited α] {l r : List α} {m i : Nat} (h : l.drop m = r.drop m) (hi : m ≤ i) : l.getD i default = r.getD i default := by
 have := congrArg (fun x => x[i - m]?) h
 simp only [List.getElem?_drop, show m + (i - m) = i by omega] at this
 rw [List.getD_eq_getElem?_getD, List.getD_eq_getElem?_getD, this]
def cpB (a : Int) : List (Option (List PV)) := [some [.d (.int .i64 a)], some [.d (.int .i64 0), .d (.int .i64 0)]]
set_option maxRecDepth 10000 in
set_option maxHeartbeats 2000000 in
theorem Compact_sc (zs : List Int) (hl : zs.length ≤ 1000) (a : Int) (ver : Nat) {K : PV → Mem → Prop} {KP : DV → Mem → Prop}
  (hK : ∀ es, K (.d (.slice false ((compactL zs).map intDV))) ⟨cpB a, [0], [some ⟨1, [], 0, 0⟩, some ⟨1, es, ver, 2⟩]⟩) :
  SC Go.Tel.C F.slices_Compact_int [.tsl 1 ver 0] ⟨cpB a, [0], [some ⟨1, [], 0, 0⟩, some ⟨1, zs.map intDV, ver, 1⟩]⟩ K KP := by
 refine sc_of_pwp mixed rfl ok_slices_Compact_int ?_
 simp only [pc_slices_Compact_int, rs_slices_Compact_int, cpB, List.length_map, RN, qA, qB, qC, qD, qE, qF]
 by_cases h2 : zs.length < 2
 ·have b1 : ((zs.length - 0 : Nat) : Int) < 2 := by omega
  simp only [b1, RN, qA, qB, qC, qD, qE, qF]
  refine frzV_t rfl ?_
  simp only [RN, qA, qB, qC, qD, qE, qF]
  have e : zs = compactL zs := by
   rcases zs with _ | ⟨x, _ | ⟨y, l⟩⟩
   ·rfl
   ·rfl
   ·exfalso; simp only [List.length_cons] at h2; omega
  have := hK (zs.map intDV)
  rw [← e] at this
  exact this
 have b1 : ¬ ((zs.length - 0 : Nat) : Int) < 2 := by omega
 simp only [b1, RN, qA, qB, qC, qD, qE, qF]
 refine pwp_while (fun (k : Nat) => ⟨[(0, .tsl 1 ver 0), (3, .d (.int .i64 k))], ⟨cpB a, [0], [some ⟨1, [], 0, 0⟩, some ⟨1, zs.map intDV, ver, 1⟩]⟩⟩)
  (fun k => 1 ≤ k ∧ k ≤ zs.length ∧ compactL zs = zs.take k ++ cmpct (zs.getD (k - 1) default) (zs.drop k)) (fun k => zs.length - k) 1 rfl ⟨Nat.le_refl _, by omega, ?_⟩ (fun k hk => ?_)
 ·rcases zs with _ | ⟨x, l⟩
  ·simp at h2
  ·simp [compactL]
 obtain ⟨k1, k2, k3⟩ := hk
 by_cases hkn : k < zs.length
 ·have c1 : (k : Int) < ((zs.length - 0 : Nat) : Int) := by omega
  have c0 : (0 : Int) ≤ (k : Int) := by omega
  have c2 : IntKind.i64.wrap ((k : Int) - 1) = ((k - 1 : Nat) : Int) := by rw [w64_in (by omega)]; omega
  have c3 : (0 : Int) ≤ ((k - 1 : Nat) : Int) := by omega
  have c4 : k - 1 < zs.length := by omega
  simp only [List.length_map, c1, c0, c2, c3, Int.toNat_natCast, hkn, c4, getD_map, dv_int, RN, qA, qB, qC, qD, qE, qF]
  have dk := drop_cons hkn
  rw [dk, cmpct] at k3
  by_cases hd : zs.getD k default = zs.getD (k - 1) default
  ·have hb : (zs.getD k default == zs.getD (k - 1) default) = true := beq_iff_eq.2 hd
   rw [if_pos hd, ← hd] at k3
   simp only [hb, RN, qA, qB, qC, qD, qE, qF]
   refine ev_slcL rfl c0 (by rw [List.length_map]; omega) ?_
   simp only [Int.toNat_natCast, RN, qA, qB, qC, qD, qE, qF]
   refine pwp_while (fun (q : Nat × Nat × List Int) => ⟨[(0, .tsl 1 ver 0), (3, .d (.int .i64 q.1)), (4, .tsl 1 ver k), (5, .d (.int .i64 q.2.1))], ⟨cpB a, [0], [some ⟨1, [], 0, 0⟩, some ⟨1, q.2.2.map intDV, ver, 1⟩]⟩⟩)
    (fun q => 1 ≤ q.2.1 ∧ k + q.2.1 ≤ zs.length ∧ q.2.2.length = zs.length ∧ k ≤ q.1 ∧ q.1 ≤ k + (q.2.1 - 1) ∧ q.2.2.drop (k + (q.2.1 - 1)) = zs.drop (k + (q.2.1 - 1)) ∧
     compactL zs = q.2.2.take q.1 ++ cmpct (zs.getD (k + (q.2.1 - 1)) default) (zs.drop (k + q.2.1))) (fun q => zs.length - (k + q.2.1)) (k, 1, zs) rfl
    ⟨Nat.le_refl _, by simp only; omega, rfl, Nat.le_refl _, by simp, rfl, k3⟩ (fun q hq => ?_)
   obtain ⟨k', k2', es⟩ := q
   obtain ⟨q1, q2, q3, q4, q5, q6, q7⟩ := hq
   simp only at q1 q2 q3 q4 q5 q6 q7
   by_cases hlt : k + k2' < zs.length
   ·have d1 : (k2' : Int) < ((es.length - k : Nat) : Int) := by omega
    have d0 : (0 : Int) ≤ (k2' : Int) := by omega
    have d2 : IntKind.i64.wrap ((k2' : Int) - 1) = ((k2' - 1 : Nat) : Int) := by rw [w64_in (by omega)]; omega
    have d3 : (0 : Int) ≤ ((k2' - 1 : Nat) : Int) := by omega
    have d4 : k + k2' < es.length := by omega
    have d5 : k + (k2' - 1) < es.length := by omega
    have d6 : (0 : Int) ≤ (k' : Int) := by omega
    have d7 : k' < es.length := by omega
    have g1 : es.getD (k + k2') default = zs.getD (k + k2') default := getD_of_drop q6 (by omega)
    have g2 : es.getD (k + (k2' - 1)) default = zs.getD (k + (k2' - 1)) default := getD_of_drop q6 (Nat.le_refl _)
    have w1 : IntKind.i64.wrap ((k2' : Int) + 1) = ((k2' + 1 : Nat) : Int) := by rw [w64_in (by omega)]; omega
    have w2 : IntKind.i64.wrap ((k' : Int) + 1) = ((k' + 1 : Nat) : Int) := by rw [w64_in (by omega)]; omega
    have dk2 := drop_cons hlt
    rw [dk2, cmpct] at q7
    simp only [List.length_map, d1, d0, d2, d3, Int.toNat_natCast, d4, d5, getD_map, dv_int, g1, g2, RN, qA, qB, qC, qD, qE, qF]
    have q6' : es.drop (k + k2') = zs.drop (k + k2') := by
     have := drop_next q6
     rwa [show k + (k2' - 1) + 1 = k + k2' by omega] at this
    by_cases he : zs.getD (k + k2') default = zs.getD (k + (k2' - 1)) default
    ·have hbn : (zs.getD (k + k2') default != zs.getD (k + (k2' - 1)) default) = false := by rw [bne, beq_iff_eq.2 he]; rfl
     rw [if_pos he, ← he] at q7
     simp only [hbn, w1, RN, qA, qB, qC, qD, qE, qF]
     exact wh_same (a := (k', k2', es)) (μ := fun q => zs.length - (k + q.2.1)) (k', k2' + 1, es) (by simp only; omega) rfl ⟨by simp, by simp only; omega, q3, q4, by simp only; omega, q6', q7⟩ (by simp [cpB]) (by simp) rfl rfl
    ·have hbn : (zs.getD (k + k2') default != zs.getD (k + (k2' - 1)) default) = true := by rw [bne, beq_eq_false_iff_ne.2 he]; rfl
     rw [if_neg he] at q7
     simp only [hbn, List.length_map, d0, d6, d4, d7, Int.toNat_natCast, getD_map, dv_int, g1, RN, qA, qB, qC, qD, qE, qF]
     refine store_ei (xs := es) rfl d7 ?_
     simp only [w1, w2, RN, qA, qB, qC, qD, qE, qF]
     refine wh_same (a := (k', k2', es)) (μ := fun q => zs.length - (k + q.2.1)) (k' + 1, k2' + 1, es.set k' (zs.getD (k + k2') default)) (by simp only; omega) rfl ⟨by simp, by simp only; omega, by simp [q3], by simp only; omega, by simp only; omega, ?_, ?_⟩ (by simp [cpB]) (by simp) rfl rfl
     ·simp only [Nat.add_sub_cancel]
      rw [drop_set_lt (by omega)]; exact q6'
     ·simp only [Nat.add_sub_cancel]
      rw [take_set_snoc d7, List.append_assoc]; exact q7
   ·have d1 : ¬ (k2' : Int) < ((es.length - k : Nat) : Int) := by omega
    have d6 : (0 : Int) ≤ (k' : Int) := by omega
    have d8 : k' ≤ es.length := by omega
    rw [List.drop_of_length_le (by omega), cmpct, List.append_nil] at q7
    simp only [List.length_map, d1, RN, qA, qB, qC, qD, qE, qF]
    refine ev_slcL rfl d6 (by rw [List.length_map]; omega) ?_
    simp only [Int.toNat_natCast, RN, qA, qB, qC, qD, qE, qF]
    refine ev_clr rfl rfl ?_
    simp only [RN, qA, qB, qC, qD, qE, qF]
    refine ev_slcD_ht rfl d6 (by simp; omega) ?_
    simp only [Int.toNat_natCast, RN, qA, qB, qC, qD, qE, qF]
    rw [List.take_append_of_le_length (by simp; omega), List.take_take, Nat.min_self, ← List.map_take, ← q7]
    exact hK _
  ·have hb : (zs.getD k default == zs.getD (k - 1) default) = false := beq_eq_false_iff_ne.2 hd
   have w1 : IntKind.i64.wrap ((k : Int) + 1) = ((k + 1 : Nat) : Int) := by rw [w64_in (by omega)]; omega
   rw [if_neg hd] at k3
   simp only [hb, w1, RN, qA, qB, qC, qD, qE, qF]
   exact wh_same (k + 1) (by omega) rfl ⟨by omega, by omega, by rw [take_snoc hkn, List.append_assoc]; exact k3⟩ (by simp [cpB]) (by simp) rfl rfl
 ·have c1 : ¬ (k : Int) < ((zs.length - 0 : Nat) : Int) := by omega
  simp only [List.length_map, c1, RN, qA, qB, qC, qD, qE, qF]
  refine frzV_t rfl ?_
  simp only [RN, qA, qB, qC, qD, qE, qF]
  have := hK (zs.map intDV)
  rw [k3, List.drop_of_length_le (by omega), List.take_of_length_le (by omega), cmpct, List.append_nil] at this
  exact this
end Go.Tel
namespace Go.Proofs
open Go.Shelf
def Tryz.laysIndexL_ren : Go.Shelf.Ren := ⟨fun | 219 => 172 | 217 => 188 | 225 => 189 | 224 => 190 | 267 => 191 | 266 => 198 | 314 => 199 | n => n, fun | 9 => 9 | 3 => 3 | 4 => 4 | 5 => 5 | 46 => 174 | 146 => 205 | 51 => 202 | n => n, fun | 1 => 0 | n => n⟩
theorem Tryz.laysIndexL : Go.Proofs.Lays.n219 Tryz.prog Tryz.laysIndexL_ren := {
 mixed := by kernel_rfl
 f217 := Tryz.func188.trans (congrArg some (by kernel_rfl))
 f219 := Tryz.func172.trans (congrArg some (by kernel_rfl))
 f224 := Tryz.func190.trans (congrArg some (by kernel_rfl))
 f225 := Tryz.func189.trans (congrArg some (by kernel_rfl))
 f266 := Tryz.func198.trans (congrArg some (by kernel_rfl))
 f267 := Tryz.func191.trans (congrArg some (by kernel_rfl))
 f314 := Tryz.func199.trans (congrArg some (by kernel_rfl))
 t3 := Tryz.underlying3
 a3 := Tryz.isAgg3
 z3 := Tryz.sizeOf3
 v3 := Tryz.zeroValue3
 t4 := Tryz.underlying4
 a4 := Tryz.isAgg4
 z4 := Tryz.sizeOf4
 v4 := Tryz.zeroValue4
 t5 := Tryz.underlying5
 a5 := Tryz.isAgg5
 z5 := Tryz.sizeOf5
 v5 := Tryz.zeroValue5
 t9 := Tryz.underlying9
 a9 := Tryz.isAgg9
 z9 := Tryz.sizeOf9
 v9 := Tryz.zeroValue9
 t46 := Tryz.underlying174
 a46 := Tryz.isAgg174
 z46 := Tryz.sizeOf174
 v46 := Tryz.zeroValue174
 t51 := Tryz.underlying202
 a51 := Tryz.isAgg202
 z51 := Tryz.sizeOf202
 v51 := Tryz.zeroValue202
 t146 := Tryz.underlying205
 a146 := Tryz.isAgg205
 z146 := Tryz.sizeOf205
 v146 := Tryz.zeroValue205
 g1 := by kernel_rfl }
def Tryz.laysSplit_ren : Go.Shelf.Ren := ⟨fun | 146 => 121 | 221 => 148 | 268 => 169 | 138 => 170 | 143 => 171 | 195 => 185 | 197 => 186 | 218 => 187 | 219 => 172 | 260 => 197 | 217 => 188 | 225 => 189 | 224 => 190 | 267 => 191 | 266 => 198 | 314 => 199 | n => n, fun | 9 => 9 | 31 => 115 | 3 => 3 | 4 => 4 | 0 => 0 | 105 => 227 | 21 => 21 | 5 => 5 | 46 => 174 | 119 => 237 | 139 => 240 | 138 => 239 | 146 => 205 | 51 => 202 | n => n, fun | 1 => 0 | 3 => 2 | 4 => 3 | n => n⟩
theorem Tryz.laysSplit : Go.Proofs.Lays.n146 Tryz.prog Tryz.laysSplit_ren := {
 mixed := by kernel_rfl
 f138 := Tryz.func170.trans (congrArg some (by kernel_rfl))
 f143 := Tryz.func171.trans (congrArg some (by kernel_rfl))
 f146 := Tryz.func121.trans (congrArg some (by kernel_rfl))
 f195 := Tryz.func185.trans (congrArg some (by kernel_rfl))
 f197 := Tryz.func186.trans (congrArg some (by kernel_rfl))
 f217 := Tryz.func188.trans (congrArg some (by kernel_rfl))
 f218 := Tryz.func187.trans (congrArg some (by kernel_rfl))
 f219 := Tryz.func172.trans (congrArg some (by kernel_rfl))
 f221 := Tryz.func148.trans (congrArg some (by kernel_rfl))
 f224 := Tryz.func190.trans (congrArg some (by kernel_rfl))
 f225 := Tryz.func189.trans (congrArg some (by kernel_rfl))
 f260 := Tryz.func197.trans (congrArg some (by kernel_rfl))
 f266 := Tryz.func198.trans (congrArg some (by kernel_rfl))
 f267 := Tryz.func191.trans (congrArg some (by kernel_rfl))
 f268 := Tryz.func169.trans (congrArg some (by kernel_rfl))
 f314 := Tryz.func199.trans (congrArg some (by kernel_rfl))
 t0 := Tryz.underlying0
 a0 := Tryz.isAgg0
 z0 := Tryz.sizeOf0
 v0 := Tryz.zeroValue0
 t3 := Tryz.underlying3
 a3 := Tryz.isAgg3
 z3 := Tryz.sizeOf3
 v3 := Tryz.zeroValue3
 t4 := Tryz.underlying4
 a4 := Tryz.isAgg4
 z4 := Tryz.sizeOf4
 v4 := Tryz.zeroValue4
 t5 := Tryz.underlying5
 a5 := Tryz.isAgg5
 z5 := Tryz.sizeOf5
 v5 := Tryz.zeroValue5
 t9 := Tryz.underlying9
 a9 := Tryz.isAgg9
 z9 := Tryz.sizeOf9
 v9 := Tryz.zeroValue9
 t21 := Tryz.underlying21
 a21 := Tryz.isAgg21
 z21 := Tryz.sizeOf21
 v21 := Tryz.zeroValue21
 t31 := Tryz.underlying115
 a31 := Tryz.isAgg115
 z31 := Tryz.sizeOf115
 v31 := Tryz.zeroValue115
 t46 := Tryz.underlying174
 a46 := Tryz.isAgg174
 z46 := Tryz.sizeOf174
 v46 := Tryz.zeroValue174
 t51 := Tryz.underlying202
 a51 := Tryz.isAgg202
 z51 := Tryz.sizeOf202
 v51 := Tryz.zeroValue202
 t105 := Tryz.underlying227
 a105 := Tryz.isAgg227
 z105 := Tryz.sizeOf227
 v105 := Tryz.zeroValue227
 t119 := Tryz.underlying237
 a119 := Tryz.isAgg237
 z119 := Tryz.sizeOf237
 t138 := Tryz.underlying239
 a138 := Tryz.isAgg239
 z138 := Tryz.sizeOf239
 v138 := Tryz.zeroValue239
 t139 := Tryz.underlying240
 a139 := Tryz.isAgg240
 z139 := Tryz.sizeOf240
 v139 := Tryz.zeroValue240
 t146 := Tryz.underlying205
 a146 := Tryz.isAgg205
 z146 := Tryz.sizeOf205
 v146 := Tryz.zeroValue205
 g1 := by kernel_rfl
 g3 := by kernel_rfl
 g4 := by kernel_rfl }
def Tryz.laysItoa_ren : Go.Shelf.Ren := ⟨fun | 171 => 119 | 243 => 144 | 246 => 166 | 283 => 179 | 284 => 180 | 285 => 181 | 286 => 182 | 129 => 162 | 317 => 193 | 318 => 194 | 319 => 195 | 320 => 196 | 337 => 200 | 338 => 201 | n => n, fun | 3 => 3 | 9 => 9 | 2 => 2 | 4 => 4 | 171 => 220 | 0 => 0 | 53 => 204 | 37 => 72 | 5 => 5 | 173 => 222 | 212 => 234 | 51 => 202 | 20 => 20 | 213 => 235 | 46 => 174 | 232 => 241 | 233 => 242 | n => n, fun | 17 => 1 | 18 => 4 | 19 => 5 | n => n⟩
theorem Tryz.laysItoa : Go.Proofs.LaysM.n171 Tryz.prog Tryz.laysItoa_ren := {
 mixed := by kernel_rfl
 f129 := Tryz.func162.trans (congrArg some (by kernel_rfl))
 f171 := Tryz.func119.trans (congrArg some (by kernel_rfl))
 f243 := Tryz.func144.trans (congrArg some (by kernel_rfl))
 f246 := Tryz.func166.trans (congrArg some (by kernel_rfl))
 f283 := Tryz.func179.trans (congrArg some (by kernel_rfl))
 f284 := Tryz.func180.trans (congrArg some (by kernel_rfl))
 f285 := Tryz.func181.trans (congrArg some (by kernel_rfl))
 f286 := Tryz.func182.trans (congrArg some (by kernel_rfl))
 f317 := Tryz.func193.trans (congrArg some (by kernel_rfl))
 f318 := Tryz.func194.trans (congrArg some (by kernel_rfl))
 f319 := Tryz.func195.trans (congrArg some (by kernel_rfl))
 f320 := Tryz.func196.trans (congrArg some (by kernel_rfl))
 f337 := Tryz.func200.trans (congrArg some (by kernel_rfl))
 f338 := Tryz.func201.trans (congrArg some (by kernel_rfl))
 t0 := Tryz.underlying0
 a0 := Tryz.isAgg0
 z0 := Tryz.sizeOf0
 v0 := Tryz.zeroValue0
 t2 := Tryz.underlying2
 a2 := Tryz.isAgg2
 z2 := Tryz.sizeOf2
 v2 := Tryz.zeroValue2
 t3 := Tryz.underlying3
 a3 := Tryz.isAgg3
 z3 := Tryz.sizeOf3
 v3 := Tryz.zeroValue3
 t4 := Tryz.underlying4
 a4 := Tryz.isAgg4
 z4 := Tryz.sizeOf4
 v4 := Tryz.zeroValue4
 t5 := Tryz.underlying5
 a5 := Tryz.isAgg5
 z5 := Tryz.sizeOf5
 v5 := Tryz.zeroValue5
 t9 := Tryz.underlying9
 a9 := Tryz.isAgg9
 z9 := Tryz.sizeOf9
 v9 := Tryz.zeroValue9
 t20 := Tryz.underlying20
 a20 := Tryz.isAgg20
 z20 := Tryz.sizeOf20
 v20 := Tryz.zeroValue20
 t37 := Tryz.underlying72
 a37 := Tryz.isAgg72
 z37 := Tryz.sizeOf72
 v37 := Tryz.zeroValue72
 t46 := Tryz.underlying174
 a46 := Tryz.isAgg174
 z46 := Tryz.sizeOf174
 v46 := Tryz.zeroValue174
 t51 := Tryz.underlying202
 a51 := Tryz.isAgg202
 z51 := Tryz.sizeOf202
 v51 := Tryz.zeroValue202
 t53 := Tryz.underlying204
 a53 := Tryz.isAgg204
 z53 := Tryz.sizeOf204
 v53 := Tryz.zeroValue204
 t171 := Tryz.underlying220
 a171 := Tryz.isAgg220
 z171 := Tryz.sizeOf220
 v171 := Tryz.zeroValue220
 t173 := Tryz.underlying222
 a173 := Tryz.isAgg222
 z173 := Tryz.sizeOf222
 v173 := Tryz.zeroValue222
 t212 := Tryz.underlying234
 a212 := Tryz.isAgg234
 z212 := Tryz.sizeOf234
 v212 := Tryz.zeroValue234
 t213 := Tryz.underlying235
 a213 := Tryz.isAgg235
 z213 := Tryz.sizeOf235
 t232 := Tryz.underlying241
 a232 := Tryz.isAgg241
 z232 := Tryz.sizeOf241
 v232 := Tryz.zeroValue241
 t233 := Tryz.underlying242
 a233 := Tryz.isAgg242
 z233 := Tryz.sizeOf242
 v233 := Tryz.zeroValue242
 g17 := by kernel_rfl
 g18 := by kernel_rfl
 g19 := by kernel_rfl
 i0 := by kernel_rfl
 i2 := by kernel_rfl
 i3 := by kernel_rfl
 i4 := by kernel_rfl
 i5 := by kernel_rfl
 i9 := by kernel_rfl
 i20 := by kernel_rfl
 i37 := by kernel_rfl
 i46 := by kernel_rfl
 i51 := by kernel_rfl
 i53 := by kernel_rfl
 i171 := by kernel_rfl
 i173 := by kernel_rfl
 i212 := by kernel_rfl
 i232 := by kernel_rfl
 i233 := by kernel_rfl
 m17 := by kernel_rfl
 m18 := by kernel_rfl
 m19 := by kernel_rfl }
def Tryz.laysJoin_ren : Go.Shelf.Ren := ⟨fun | 156 => 120 | 165 => 145 | 166 => 146 | 169 => 147 | 240 => 167 | 241 => 168 | 276 => 183 | 277 => 184 | n => n, fun | 31 => 115 | 9 => 9 | 3 => 3 | 4 => 4 | 0 => 0 | 20 => 20 | 72 => 185 | 76 => 189 | 70 => 183 | 37 => 72 | 75 => 188 | 127 => 211 | 164 => 224 | 5 => 5 | 80 => 191 | n => n, fun | n => n⟩
theorem Tryz.laysJoin : Go.Proofs.Lays.n156 Tryz.prog Tryz.laysJoin_ren := {
 mixed := by kernel_rfl
 f156 := Tryz.func120.trans (congrArg some (by kernel_rfl))
 f165 := Tryz.func145.trans (congrArg some (by kernel_rfl))
 f166 := Tryz.func146.trans (congrArg some (by kernel_rfl))
 f169 := Tryz.func147.trans (congrArg some (by kernel_rfl))
 f240 := Tryz.func167.trans (congrArg some (by kernel_rfl))
 f241 := Tryz.func168.trans (congrArg some (by kernel_rfl))
 f276 := Tryz.func183.trans (congrArg some (by kernel_rfl))
 f277 := Tryz.func184.trans (congrArg some (by kernel_rfl))
 t0 := Tryz.underlying0
 a0 := Tryz.isAgg0
 z0 := Tryz.sizeOf0
 v0 := Tryz.zeroValue0
 t3 := Tryz.underlying3
 a3 := Tryz.isAgg3
 z3 := Tryz.sizeOf3
 v3 := Tryz.zeroValue3
 t4 := Tryz.underlying4
 a4 := Tryz.isAgg4
 z4 := Tryz.sizeOf4
 v4 := Tryz.zeroValue4
 t9 := Tryz.underlying9
 a9 := Tryz.isAgg9
 z9 := Tryz.sizeOf9
 v9 := Tryz.zeroValue9
 t20 := Tryz.underlying20
 a20 := Tryz.isAgg20
 z20 := Tryz.sizeOf20
 v20 := Tryz.zeroValue20
 t31 := Tryz.underlying115
 a31 := Tryz.isAgg115
 z31 := Tryz.sizeOf115
 v31 := Tryz.zeroValue115
 t37 := Tryz.underlying72
 a37 := Tryz.isAgg72
 z37 := Tryz.sizeOf72
 v37 := Tryz.zeroValue72
 t70 := Tryz.underlying183
 a70 := Tryz.isAgg183
 z70 := Tryz.sizeOf183
 v70 := Tryz.zeroValue183
 t72 := Tryz.underlying185
 a72 := Tryz.isAgg185
 z72 := Tryz.sizeOf185
 v72 := Tryz.zeroValue185
 t75 := Tryz.underlying188
 a75 := Tryz.isAgg188
 z75 := Tryz.sizeOf188
 v75 := Tryz.zeroValue188
 t76 := Tryz.underlying189
 a76 := Tryz.isAgg189
 z76 := Tryz.sizeOf189
 v76 := Tryz.zeroValue189
 t127 := Tryz.underlying211
 a127 := Tryz.isAgg211
 z127 := Tryz.sizeOf211
 v127 := Tryz.zeroValue211
 t164 := Tryz.underlying224
 a164 := Tryz.isAgg224
 z164 := Tryz.sizeOf224
 v164 := Tryz.zeroValue224 }
def Tryz.laysSort_ren : Go.Shelf.Ren := ⟨fun | 189 => 93 | 125 => 135 | 257 => 134 | 128 => 161 | 129 => 162 | 294 => 152 | 295 => 153 | 296 => 154 | 297 => 155 | 298 => 156 | 299 => 157 | 216 => 158 | 300 => 159 | 301 => 160 | 328 => 174 | 329 => 175 | 330 => 176 | 331 => 177 | 332 => 178 | 215 => 173 | 343 => 192 | n => n, fun | 28 => 44 | 3 => 3 | 46 => 174 | 0 => 0 | 51 => 202 | 53 => 204 | 4 => 4 | 183 => 195 | 182 => 194 | 131 => 199 | 5 => 5 | 9 => 9 | 218 => 214 | 222 => 218 | 228 => 230 | 229 => 231 | n => n, fun | n => n⟩
theorem Tryz.laysSort : Go.Proofs.Lays.n189 Tryz.prog Tryz.laysSort_ren := {
 mixed := by kernel_rfl
 f125 := Tryz.func135.trans (congrArg some (by kernel_rfl))
 f128 := Tryz.func161.trans (congrArg some (by kernel_rfl))
 f129 := Tryz.func162.trans (congrArg some (by kernel_rfl))
 f189 := Tryz.func93.trans (congrArg some (by kernel_rfl))
 f215 := Tryz.func173.trans (congrArg some (by kernel_rfl))
 f216 := Tryz.func158.trans (congrArg some (by kernel_rfl))
 f257 := Tryz.func134.trans (congrArg some (by kernel_rfl))
 f294 := Tryz.func152.trans (congrArg some (by kernel_rfl))
 f295 := Tryz.func153.trans (congrArg some (by kernel_rfl))
 f296 := Tryz.func154.trans (congrArg some (by kernel_rfl))
 f297 := Tryz.func155.trans (congrArg some (by kernel_rfl))
 f298 := Tryz.func156.trans (congrArg some (by kernel_rfl))
 f299 := Tryz.func157.trans (congrArg some (by kernel_rfl))
 f300 := Tryz.func159.trans (congrArg some (by kernel_rfl))
 f301 := Tryz.func160.trans (congrArg some (by kernel_rfl))
 f328 := Tryz.func174.trans (congrArg some (by kernel_rfl))
 f329 := Tryz.func175.trans (congrArg some (by kernel_rfl))
 f330 := Tryz.func176.trans (congrArg some (by kernel_rfl))
 f331 := Tryz.func177.trans (congrArg some (by kernel_rfl))
 f332 := Tryz.func178.trans (congrArg some (by kernel_rfl))
 f343 := Tryz.func192.trans (congrArg some (by kernel_rfl))
 t0 := Tryz.underlying0
 a0 := Tryz.isAgg0
 z0 := Tryz.sizeOf0
 v0 := Tryz.zeroValue0
 t3 := Tryz.underlying3
 a3 := Tryz.isAgg3
 z3 := Tryz.sizeOf3
 v3 := Tryz.zeroValue3
 t4 := Tryz.underlying4
 a4 := Tryz.isAgg4
 z4 := Tryz.sizeOf4
 v4 := Tryz.zeroValue4
 t5 := Tryz.underlying5
 a5 := Tryz.isAgg5
 z5 := Tryz.sizeOf5
 v5 := Tryz.zeroValue5
 t9 := Tryz.underlying9
 a9 := Tryz.isAgg9
 z9 := Tryz.sizeOf9
 v9 := Tryz.zeroValue9
 t28 := Tryz.underlying44
 a28 := Tryz.isAgg44
 z28 := Tryz.sizeOf44
 v28 := Tryz.zeroValue44
 t46 := Tryz.underlying174
 a46 := Tryz.isAgg174
 z46 := Tryz.sizeOf174
 v46 := Tryz.zeroValue174
 t51 := Tryz.underlying202
 a51 := Tryz.isAgg202
 z51 := Tryz.sizeOf202
 v51 := Tryz.zeroValue202
 t53 := Tryz.underlying204
 a53 := Tryz.isAgg204
 z53 := Tryz.sizeOf204
 v53 := Tryz.zeroValue204
 t131 := Tryz.underlying199
 a131 := Tryz.isAgg199
 z131 := Tryz.sizeOf199
 v131 := Tryz.zeroValue199
 t182 := Tryz.underlying194
 a182 := Tryz.isAgg194
 z182 := Tryz.sizeOf194
 v182 := Tryz.zeroValue194
 t183 := Tryz.underlying195
 a183 := Tryz.isAgg195
 z183 := Tryz.sizeOf195
 v183 := Tryz.zeroValue195
 t218 := Tryz.underlying214
 a218 := Tryz.isAgg214
 z218 := Tryz.sizeOf214
 v218 := Tryz.zeroValue214
 t222 := Tryz.underlying218
 a222 := Tryz.isAgg218
 z222 := Tryz.sizeOf218
 v222 := Tryz.zeroValue218
 t228 := Tryz.underlying230
 a228 := Tryz.isAgg230
 z228 := Tryz.sizeOf230
 v228 := Tryz.zeroValue230
 t229 := Tryz.underlying231
 a229 := Tryz.isAgg231
 z229 := Tryz.sizeOf231
 v229 := Tryz.zeroValue231 }
def Tryz.laysCutL_ren : Go.Shelf.Ren := ⟨fun | 220 => 150 | 219 => 172 | 217 => 188 | 225 => 189 | 224 => 190 | 267 => 191 | 266 => 198 | 314 => 199 | n => n, fun | 9 => 9 | 4 => 4 | 3 => 3 | 5 => 5 | 46 => 174 | 146 => 205 | 51 => 202 | n => n, fun | 1 => 0 | n => n⟩
theorem Tryz.laysCutL : Go.Proofs.Lays.n220 Tryz.prog Tryz.laysCutL_ren := {
 mixed := by kernel_rfl
 f217 := Tryz.func188.trans (congrArg some (by kernel_rfl))
 f219 := Tryz.func172.trans (congrArg some (by kernel_rfl))
 f220 := Tryz.func150.trans (congrArg some (by kernel_rfl))
 f224 := Tryz.func190.trans (congrArg some (by kernel_rfl))
 f225 := Tryz.func189.trans (congrArg some (by kernel_rfl))
 f266 := Tryz.func198.trans (congrArg some (by kernel_rfl))
 f267 := Tryz.func191.trans (congrArg some (by kernel_rfl))
 f314 := Tryz.func199.trans (congrArg some (by kernel_rfl))
 t3 := Tryz.underlying3
 a3 := Tryz.isAgg3
 z3 := Tryz.sizeOf3
 v3 := Tryz.zeroValue3
 t4 := Tryz.underlying4
 a4 := Tryz.isAgg4
 z4 := Tryz.sizeOf4
 v4 := Tryz.zeroValue4
 t5 := Tryz.underlying5
 a5 := Tryz.isAgg5
 z5 := Tryz.sizeOf5
 v5 := Tryz.zeroValue5
 t9 := Tryz.underlying9
 a9 := Tryz.isAgg9
 z9 := Tryz.sizeOf9
 v9 := Tryz.zeroValue9
 t46 := Tryz.underlying174
 a46 := Tryz.isAgg174
 z46 := Tryz.sizeOf174
 v46 := Tryz.zeroValue174
 t51 := Tryz.underlying202
 a51 := Tryz.isAgg202
 z51 := Tryz.sizeOf202
 v51 := Tryz.zeroValue202
 t146 := Tryz.underlying205
 a146 := Tryz.isAgg205
 z146 := Tryz.sizeOf205
 v146 := Tryz.zeroValue205
 g1 := by kernel_rfl }
end Go.Proofs
namespace Go.Proofs
open Go.Shelf
end Go.Proofs
namespace Go.Tel
open Go.Am
theorem Sort_sc {k ver : Nat} {zs : List Int} {bs : List (Option (List PV))} {fz : List Nat} {ar : List (Option Arr)} {K : PV → Mem → Prop} {KP : DV → Mem → Prop}
  (h : ar[k]? = some (some ⟨1, zs.map (DV.int .i64), ver, 1⟩)) (hz : zs ≠ []) (hl : zs.length < 4611686018427387904)
  (hK : K (.d (.tup [])) ⟨bs, fz, ar.set k (some ⟨1, (zs.mergeSort fun x y => decide (x ≤ y)).map (DV.int .i64), ver, 1⟩)⟩) : SC Go.Tel.C F.slices_Sort_int [.tsl k ver 0] ⟨bs, fz, ar⟩ K KP :=
 sort_sc (C := Go.Tel.C) Go.Proofs.Tryz.laysSort h hz hl hK
end Go.Tel
