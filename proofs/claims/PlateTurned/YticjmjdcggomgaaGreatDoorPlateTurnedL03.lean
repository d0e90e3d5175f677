/-
  Part 3 of the proof of a law of plates, the law itself: an abstract machine over the model, contracts of functions, plain laws.
  Conditions: none.
-/
import Derived.Test.YticjmjdcggomgaaGreatDoorPlateTurnedL02
set_option linter.all false
open Nat renaming reduceBEq → qA, reduceAdd → qB, reduceSub → qC, reduceEqDiff → qD, reduceLT → qE, reduceLeDiff → qF
namespace Go.Tel
open Go.Am
def Tn.small (q : Tn) : Prop := q.num.natAbs ≤ 268435456 ∧ 1 ≤ q.den ∧ q.den ≤ 268435456
set_option maxRecDepth 10000 in
theorem plain_c (q : Tn) (h : q.small) : Pure C F.law_plain [.agg [.int .i64 q.num, .int .i64 q.den]] (.d (.bool true)) [] := by
 obtain ⟨h1, h2, h3⟩ := h
 refine pure_of_pwp_d mixed rfl ok_law_plain ?_
 have e1 : q.den > 0 := by omega
 have e2 : q.den ≤ 1000000000000 := by omega
 have e3 : q.num ≥ -1000000000000 := by omega
 have e4 : q.num ≤ 1000000000000 := by omega
 simp only [pc_law_plain, rs_law_plain, List.not_mem_nil, e1, e2, e3, e4, RN, qA, qB, qC, qD, qE, qF]
set_option maxRecDepth 10000 in
theorem product_c (a b : Tn) (x y : Int) (ha : a.small) (hb : b.small) (hx : 1 ≤ x ∧ x ≤ 16) (hy : 1 ≤ y ∧ y ≤ 16) (h : a.num * x * b.den + b.num * y * a.den = 0) :
  Pure C F.law_product [.agg [.int .i64 a.num, .int .i64 a.den], .int .i64 x, .agg [.int .i64 b.num, .int .i64 b.den], .int .i64 y] (.d (.bool true)) [] := by
 obtain ⟨a1, a2, a3⟩ := ha
 obtain ⟨b1, b2, b3⟩ := hb
 have hg := rGCD_i (a := a.den) (b := b.den) (by omega) (by omega)
 have gp := gcdI_pos (a := a.den) (b := b.den) (by omega)
 have gl := gcdI_l a.den b.den
 have gr := gcdI_r a.den b.den
 have t1 := tdiv_bd a.den (gcdI a.den b.den)
 have t2 := tdiv_bd b.den (gcdI a.den b.den)
 generalize gcdI a.den b.den = g at *
 have m1 := mul_le (k := 268435456) (l := 16) a1 (show x.natAbs ≤ 16 by omega)
 have m2 := mul_le (k := 268435456) (l := 16) b1 (show y.natAbs ≤ 16 by omega)
 have m3 := mul_le (k := 268435456 * 16) (l := 268435456) m1 (show (b.den.tdiv g).natAbs ≤ 268435456 by omega)
 have m4 := mul_le (k := 268435456 * 16) (l := 268435456) m2 (show (a.den.tdiv g).natAbs ≤ 268435456 by omega)
 have v1 : IntKind.i64.wrap (a.num * x) = a.num * x := w64_in (by omega)
 have v2 : IntKind.i64.wrap (b.num * y) = b.num * y := w64_in (by omega)
 have v3 : IntKind.i64.wrap (b.den.tdiv g) = b.den.tdiv g := w64_in (by omega)
 have v4 : IntKind.i64.wrap (a.den.tdiv g) = a.den.tdiv g := w64_in (by omega)
 have v5 : IntKind.i64.wrap (a.num * x * b.den.tdiv g) = a.num * x * b.den.tdiv g := w64_in (by omega)
 have v6 : IntKind.i64.wrap (b.num * y * a.den.tdiv g) = b.num * y * a.den.tdiv g := w64_in (by omega)
 have hz : a.num * x * b.den.tdiv g + b.num * y * a.den.tdiv g = 0 := by
  have hg0 : g ≠ 0 := by omega
  refine Int.eq_of_mul_eq_mul_left hg0 ?_
  grind
 have v7 : IntKind.i64.wrap (a.num * x * b.den.tdiv g + b.num * y * a.den.tdiv g) = 0 := by rw [hz]; rfl
 have hg0 : g ≠ 0 := by omega
 have y0 : ((0 : Int) == 0) = true := rfl
 refine pure_of_pwp_d mixed rfl ok_law_product ?_
 simp only [pc_law_product, rs_law_product, List.not_mem_nil, RN, qA, qB, qC, qD, qE, qF]
 refine call_d rfl rfl hg ?_
 simp only [v1, v2, v3, v4, v5, v6, v7, hg0, y0, List.not_mem_nil, RN, qA, qB, qC, qD, qE, qF]
set_option maxRecDepth 10000 in
set_option maxHeartbeats 4000000 in
theorem PlateTurned_c (hkn : KnownC) (p : Piece) (w o : Int) : Pure Go.Tel.C F.law_PlateTurned [p.dv, .int .i64 w, .int .i64 o] (.d (.bool true)) [] := by
 have hkn : Pure C F.law_known [] (.d (.bool true)) [] := hkn
 have y0 : ((0 : Int) == 0) = true := rfl
 have n0 : ((0 : Int) != 0) = false := rfl
 have n7 : ((7 : Int) != 0) = true := rfl
 have y7 : ((7 : Int) == 7) = true := rfl
 have tt : (true != true) = false := rfl
 have hsh := short_c p
 rw [dv_Piece] at hsh
 refine pure_of_pwp_d mixed rfl ok_law_PlateTurned ?_
 simp only [pc_law_PlateTurned, rs_law_PlateTurned, dv_Piece, List.not_mem_nil, RN, qA, qB, qC, qD, qE, qF]
 refine call_d rfl rfl hsh ?_
 cases hs : p.short
 ·simp only [RN, qA, qB, qC, qD, qE, qF]
  refine call_d rfl rfl hkn ?_
  simp only [RN, qA, qB, qC, qD, qE, qF]
 simp only [Piece.short, Bool.and_eq_true, decide_eq_true_eq] at hs
 obtain ⟨⟨s1, s2⟩, s3⟩ := hs
 have h2 := rPiece_c p (by omega) (by omega) (by omega)
 have h3 := rWheel_c p w (by omega)
 have h4 := rWheel_c p o (by omega)
 rw [dv_Piece] at h2 h3 h4
 simp only [RN, qA, qB, qC, qD, qE, qF]
 refine call_d rfl rfl h2 ?_
 cases hok : p.ok
 ·simp only [RN, qA, qB, qC, qD, qE, qF]
  refine call_d rfl rfl hkn ?_
  simp only [RN, qA, qB, qC, qD, qE, qF]
 simp only [RN, qA, qB, qC, qD, qE, qF]
 refine call_d rfl rfl h3 ?_
 cases hw : inR w 0 (p.ws.length - 1)
 ·simp only [RN, qA, qB, qC, qD, qE, qF]
  refine call_d rfl rfl hkn ?_
  simp only [RN, qA, qB, qC, qD, qE, qF]
 simp only [RN, qA, qB, qC, qD, qE, qF]
 refine call_d rfl rfl h4 ?_
 cases ho : inR o 0 (p.ws.length - 1)
 ·simp only [RN, qA, qB, qC, qD, qE, qF]
  refine call_d rfl rfl hkn ?_
  simp only [RN, qA, qB, qC, qD, qE, qF]
 have hW : p.isW w := by simp only [inR, Bool.and_eq_true, decide_eq_true_eq] at hw; exact ⟨by omega, by omega⟩
 have hO : p.isW o := by simp only [inR, Bool.and_eq_true, decide_eq_true_eq] at ho; exact ⟨by omega, by omega⟩
 have hR := fun v => Ratios_c p (by omega) (by omega) (by omega) v (fun h1 h2 => rt_not h1 h2)
 simp only [dv_Piece] at hR
 obtain ⟨w1, w2⟩ := hW
 obtain ⟨n, rfl⟩ := Int.eq_ofNat_of_zero_le w1
 rw [Int.toNat_natCast] at w2
 obtain ⟨o1, o2⟩ := hO
 obtain ⟨k, rfl⟩ := Int.eq_ofNat_of_zero_le o1
 rw [Int.toNat_natCast] at o2
 have hlen := Piece.ok_lens hok
 simp only [RN, qA, qB, qC, qD, qE, qF]
 refine pwp_range p.ws.length (fun i (_ : Unit) => ⟨[(1, .d (.int .i64 n)), (2, .d (.int .i64 k)), (3, .d (.cptr p.cells)), (7, .d (.int .i64 i))], ⟨[some (p.cells.map .d)], [0], []⟩⟩)
  (fun i _ => ∀ c, c < i → (p.ws.getD c default).teeth ≤ 16) 0 () (Nat.zero_le _) rfl (fun c hc => by omega) (fun i _ g1 hix => ?_) (fun _ hix => ?_)
 ·obtain ⟨g2, g3, g6⟩ := rng g1 (by omega)
  by_cases hb : (p.ws.getD i default).teeth > 16
  ·simp only [Piece.cells, g2, g3, g1, getD_map, Int.toNat_natCast, List.length_map, dv_Wh, hb, RN, qA, qB, qC, qD, qE, qF]
   refine call_d rfl rfl hkn ?_
   simp only [RN, qA, qB, qC, qD, qE, qF]
  ·simp only [Piece.cells, g2, g3, g1, getD_map, Int.toNat_natCast, List.length_map, dv_Wh, hb, g6, RN, qA, qB, qC, qD, qE, qF]
   refine up_same () g1 rfl (fun c hc => ?_) (by simp) (by simp) rfl rfl
   by_cases e : c = i
   ·rw [e]; omega
   ·exact hix c (by omega)
 have hM : ∀ x ∈ p.ws, 1 ≤ x.teeth ∧ x.teeth ≤ (16 : Nat) := fun x hx => by
  obtain ⟨i, hi, rfl⟩ := List.getElem_of_mem hx
  have := hix i hi
  rw [List.getD_eq_getElem?_getD, List.getElem?_eq_getElem hi, Option.getD_some] at this
  have := Piece.ok_50 hok _ hx
  omega
 have hB : 16 ^ (p.ws.length - 1) ≤ 268435456 := Nat.le_trans (Nat.pow_le_pow_right (by decide) (show p.ws.length - 1 ≤ 7 by omega)) (by decide)
 simp only [Piece.cells, Int.lt_irrefl, List.length_map, RN, qA, qB, qC, qD, qE, qF]
 rcases rt_spec hM (by decide) w2 (Nat.le_trans hB (by decide)) (by omega) with ⟨t, r1, F⟩ | ⟨⟨a, b, r1⟩, _⟩
 case inr =>
  have e : p.ratios n = (none, 7) := by rw [Piece.ratios, hok, hw, r1]; rfl
  have h1 := hR n
  rw [e] at h1
  refine call_d rfl rfl h1 ?_
  simp only [slD, n7, y7, RN, qA, qB, qC, qD, qE, qF]
  refine call_d rfl rfl hkn ?_
  simp only [RN, qA, qB, qC, qD, qE, qF]
 have e : p.ratios n = (some t, 0) := by rw [Piece.ratios, hok, hw, r1]; rfl
 have h1 := hR n
 rw [e] at h1
 have hsm : ∀ c, c < p.ws.length → (t.getD c default).small := fun c hc => by
  by_cases hr : p.Re n c
  ·have := F.bd c hr
   have := (F.low c hr).den
   exact ⟨by omega, by omega, by omega⟩
  ·rw [F.zer c hc hr]; exact ⟨by decide, by decide, by decide⟩
 have htl := F.len
 have hnt : n < t.length := by omega
 have hkt : k < t.length := by omega
 have h1t : t.getD n default = ⟨1, 1⟩ := F.lab.one
 have ltl : ((t.length : Nat) : Int) = (p.ws.length : Int) := by rw [htl]
 have nll : ((p.ws.length : Int) != (p.ws.length : Int)) = false := bne_self_eq_false _
 refine call_d rfl rfl h1 ?_
 simp only [slD, n0, ltl, nll, List.length_map, o1, w1, hnt, hkt, Int.toNat_natCast, getD_map, h1t, dv_Tn, RN, qA, qB, qC, qD, qE, qF]
 rw [ev_binA (t := true) rfl]
 simp only [tt, RN, qA, qB, qC, qD, qE, qF]
 have hmm := fun a b => rMeshed_c p a b (by omega)
 simp only [dv_Piece] at hmm
 have hms : ∀ m ∈ p.ms, m.a < m.b := fun m hm => (ok_mss hok m hm).2.1
 refine pwp_range p.ws.length (fun i (_ : Unit) => ⟨[(1, .d (.int .i64 n)), (2, .d (.int .i64 k)), (3, .d (.cptr p.cells)), (8, .d (.slice false (t.map Tn.dv))), (10, .d (.int .i64 i))], ⟨[some (p.cells.map .d)], [0], []⟩⟩)
  (fun _ _ => True) 0 () (Nat.zero_le _) rfl trivial (fun i _ g1 _ => ?_) (fun _ _ => ?_)
 ·obtain ⟨g2, g3, g6⟩ := rng g1 (by omega)
  have hit : i < t.length := by omega
  have hpl := plain_c _ (hsm i g1)
  obtain ⟨k1, k2, k3⟩ := hsm i g1
  have e1 : ¬ (t.getD i default).den > 268435456 := by omega
  have e2 : ¬ (t.getD i default).num > 268435456 := by omega
  have e3 : ¬ (t.getD i default).num < -268435456 := by omega
  simp only [Piece.cells, g2, g3, hit, ltl, getD_map, Int.toNat_natCast, List.length_map, dv_Tn, RN, qA, qB, qC, qD, qE, qF]
  refine call_d rfl rfl hpl ?_
  simp only [g3, hit, getD_map, Int.toNat_natCast, List.length_map, dv_Tn, e1, e2, e3, g6, RN, qA, qB, qC, qD, qE, qF]
  exact up_same () g1 rfl trivial (by simp) (by simp) rfl rfl
 simp only [Piece.cells, Int.lt_irrefl, ltl, List.length_map, RN, qA, qB, qC, qD, qE, qF]
 refine pwp_range p.ws.length (fun i (_ : Unit) => ⟨[(1, .d (.int .i64 n)), (2, .d (.int .i64 k)), (3, .d (.cptr p.cells)), (8, .d (.slice false (t.map Tn.dv))), (11, .d (.int .i64 i))], ⟨[some (p.cells.map .d)], [0], []⟩⟩)
  (fun _ _ => True) 0 () (Nat.zero_le _) rfl trivial (fun i _ g1 _ => ?_) (fun _ _ => ?_)
 ·obtain ⟨g2, g3, g6⟩ := rng g1 (by omega)
  have hit : i < t.length := by omega
  simp only [Piece.cells, g2, ltl, List.length_map, RN, qA, qB, qC, qD, qE, qF]
  refine pwp_range i (fun j (_ : Unit) => ⟨[(1, .d (.int .i64 n)), (2, .d (.int .i64 k)), (3, .d (.cptr p.cells)), (8, .d (.slice false (t.map Tn.dv))), (11, .d (.int .i64 i)), (12, .d (.int .i64 j))], ⟨[some (p.cells.map .d)], [0], []⟩⟩)
   (fun _ _ => True) 0 () (Nat.zero_le _) rfl trivial (fun j _ f1 _ => ?_) (fun _ _ => ?_)
  ·obtain ⟨f2, f3, f6⟩ := rng f1 (by omega)
   have hjt : j < t.length := by omega
   have hjw : j < p.ws.length := by omega
   have hji : j ≠ i := by omega
   have hsl : p.sleeved i j = ((p.ws.getD i default).centre == (p.ws.getD j default).centre && (p.ws.getD i default).sleeve == (p.ws.getD j default).sleeve) := by simp only [Piece.sleeved, Piece.centred, Piece.wh, Int.toNat_natCast]
   have hmi := hmm i j
   have hfm := fun h => found_mesh hM w2 F g1 hjw hji h
   rw [mesh_same hms] at hfm
   have hfs := fun h => found_sleeve hM w2 F g1 hjw hji h
   have ti := wh_teeth hM g1
   have tj := wh_teeth hM hjw
   have si := hsm i g1
   have sj := hsm j hjw
   simp only [Piece.wh, Int.toNat_natCast] at ti tj hfm
   have hcase : (((p.ws.getD i default).centre == (p.ws.getD j default).centre) = false ∧ ((p.ws.getD i default).sleeve == (p.ws.getD j default).sleeve) = ((p.ws.getD i default).sleeve == (p.ws.getD j default).sleeve)) ∨ (((p.ws.getD i default).centre == (p.ws.getD j default).centre) = true ∧ ((p.ws.getD i default).sleeve == (p.ws.getD j default).sleeve) = false) ∨
     (((p.ws.getD i default).centre == (p.ws.getD j default).centre) = true ∧ ((p.ws.getD i default).sleeve == (p.ws.getD j default).sleeve) = true) := by
    cases ((p.ws.getD i default).centre == (p.ws.getD j default).centre) <;> cases ((p.ws.getD i default).sleeve == (p.ws.getD j default).sleeve) <;> simp
   simp only [Piece.cells, f2, g3, f3, g1, hjw, getD_map, Int.toNat_natCast, List.length_map, dv_Wh, List.not_mem_nil, RN, qA, qB, qC, qD, qE, qF]
   rcases hcase with ⟨hC, hS⟩ | ⟨hC, hS⟩ | ⟨hC, hS⟩
   case' inr.inr =>
    have heq := hfs (by rw [hsl, hC, hS]; rfl)
   all_goals
    simp only [hC, hS, g3, f3, hit, hjt, getD_map, Int.toNat_natCast, List.length_map, dv_Tn, List.not_mem_nil, RN, qA, qB, qC, qD, qE, qF]
   case' inr.inr =>
    rw [ev_binA (cellsEq_tn _ _), decide_eq_true heq]
    simp only [tt, RN, qA, qB, qC, qD, qE, qF]
   all_goals
    refine call_d rfl rfl hmi ?_
    cases hm : p.rmeshed i j
    ·simp only [f6, RN, qA, qB, qC, qD, qE, qF]
     exact up_take 1 0 () f1 rfl trivial (by simp) (by simp) rfl rfl
    ·obtain ⟨m1, m2⟩ := hfm hm
     have hpr := product_c _ _ _ _ si sj ti tj m1
     have hnb : ((t.getD i default).num == 0) = ((t.getD j default).num == 0) := by
      rw [Bool.eq_iff_iff, beq_iff_eq, beq_iff_eq]; exact m2
     have hbb : ∀ b : Bool, ((b == b) != true) = false := fun b => by cases b <;> rfl
     simp only [g3, f3, hit, hjt, getD_map, Int.toNat_natCast, List.length_map, dv_Tn, List.not_mem_nil, RN, qA, qB, qC, qD, qE, qF]
     refine call_d rfl rfl hpr ?_
     simp only [g3, f3, hit, hjt, getD_map, Int.toNat_natCast, List.length_map, dv_Tn, List.not_mem_nil, hnb, hbb, f6, RN, qA, qB, qC, qD, qE, qF]
     exact up_take 1 0 () f1 rfl trivial (by simp) (by simp) rfl rfl
  ·simp only [Piece.cells, Int.lt_irrefl, List.length_map, g6, RN, qA, qB, qC, qD, qE, qF]
   exact up_same () g1 rfl trivial (by simp) (by simp) rfl rfl
 have h5 := hR k
 simp only [Piece.cells, Int.lt_irrefl, ltl, List.length_map, RN, qA, qB, qC, qD, qE, qF]
 refine call_d rfl rfl h5 ?_
 cases hz : ((t.getD k default).num == 0)
 case true =>
  simp only [o1, hkt, getD_map, Int.toNat_natCast, List.length_map, dv_Tn, hz, RN, qA, qB, qC, qD, qE, qF]
  refine call_d rfl rfl hkn ?_
  simp only [RN, qA, qB, qC, qD, qE, qF]
 have hz' : (t.getD k default).num ≠ 0 := beq_eq_false_iff_ne.1 hz
 have hrk : p.Re n k := Classical.byContradiction fun h => hz' (by rw [F.zer k o2 h])
 have hlab := found_other hM w2 F hrk
 rcases rt_spec hM (by decide) o2 (Nat.le_trans hB (by decide)) (by omega) with ⟨u, r2, G⟩ | ⟨_, r2⟩
 case inr => exact absurd ⟨_, hlab⟩ r2
 have e5 : p.ratios k = (some u, 0) := by rw [Piece.ratios, hok, ho, r2]; rfl
 have hun : u.getD n default = ⟨(t.getD k default).den * (t.getD k default).num.sign, (t.getD k default).num.natAbs⟩ := by
  have := Lab_uniq G.lab hlab (Re_symm w2 hrk)
  rw [this]
  show divT (t.getD n default) (t.getD k default) = _
  rw [h1t, divT_one hz' (F.low k hrk)]
 have hnu : n < u.length := by rw [G.len]; exact w2
 have lul : ((u.length : Nat) : Int) = (p.ws.length : Int) := by rw [G.len]
 obtain ⟨q1, q2, q3⟩ := hsm k o2
 have v1 : IntKind.i64.wrap (0 - (t.getD k default).num) = -(t.getD k default).num := by rw [w64_in (by omega)]; omega
 have v2 : IntKind.i64.wrap (0 - (t.getD k default).den) = -(t.getD k default).den := by rw [w64_in (by omega)]; omega
 have hu2 : 2 ≤ ((u.map Tn.dv).getD n default).cells.length := by rw [getD_map hnu, dv_Tn]; exact Nat.le_refl _
 rw [e5]
 by_cases hneg : (t.getD k default).num < 0
 ·have hs : (t.getD k default).den * (t.getD k default).num.sign = -(t.getD k default).den := by rw [Int.sign_eq_neg_one_of_neg hneg]; omega
  rw [hs] at hun
  simp only [o1, hkt, getD_map, Int.toNat_natCast, List.length_map, dv_Tn, hz, n0, lul, ltl, nll, slD, v1, neg_abs, hneg, v2, w1, hnu, hun, List.not_mem_nil, RN, qA, qB, qC, qD, qE, qF]
  rw [ev_binA (t := true) (by simp [cellsEq])]
  simp only [bne_f, RN, qA, qB, qC, qD, qE, qF]
  refine call_d rfl rfl hkn ?_
  simp only [RN, qA, qB, qC, qD, qE, qF]
 ·have hs : (t.getD k default).den * (t.getD k default).num.sign = (t.getD k default).den := by rw [Int.sign_eq_one_of_pos (by omega)]; omega
  rw [hs] at hun
  simp only [o1, hkt, getD_map, Int.toNat_natCast, List.length_map, dv_Tn, hz, n0, lul, ltl, nll, slD, v1, neg_abs, hneg, v2, w1, hnu, hun, List.not_mem_nil, RN, qA, qB, qC, qD, qE, qF]
  rw [ev_binA (t := true) (by simp [cellsEq])]
  simp only [bne_f, RN, qA, qB, qC, qD, qE, qF]
  refine call_d rfl rfl hkn ?_
  simp only [RN, qA, qB, qC, qD, qE, qF]
end Go.Tel
