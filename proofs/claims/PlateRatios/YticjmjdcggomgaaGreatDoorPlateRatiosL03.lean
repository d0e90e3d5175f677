/-
  Part 3 of the proof of a law of plates, the law itself: an abstract machine over the model, contracts of functions, plain laws.
  Conditions: none.
-/
import Derived.Test.YticjmjdcggomgaaGreatDoorPlateRatiosL02
set_option linter.all false
open Nat renaming reduceBEq → qA, reduceAdd → qB, reduceSub → qC, reduceEqDiff → qD, reduceLT → qE, reduceLeDiff → qF
namespace Go.Tel
open Go.Am
set_option maxRecDepth 10000 in
theorem rGCD_c (a b : Nat) : Pure C F.ref_GCD [.int .i64 a, .int .i64 b] (.d (.int .i64 (Nat.gcd a b : Nat))) [] := by
 refine pure_of_pwp_d mixed rfl ok_ref_GCD ?_
 simp only [pc_ref_GCD, rs_ref_GCD, RN, qA, qB, qC, qD, qE, qF]
 refine pwp_while (fun (q : Nat × Nat) => ⟨[(0, .d (.int .i64 q.1)), (1, .d (.int .i64 q.2))], ⟨[], [], []⟩⟩) (fun q => Nat.gcd q.1 q.2 = Nat.gcd a b) (fun q => q.2) (a, b) rfl rfl (fun q hq => ?_)
 by_cases hz : q.2 = 0
 ·have hb : ¬ ((q.2 : Int) > 0) := by omega
  simp only [hb, RN, qA, qB, qC, qD, qE, qF]
  rw [hz, Nat.gcd_zero_right] at hq
  rw [hq]
 ·have hb : ((q.2 : Int) > 0) := by omega
  have hne : ((q.2 : Int) ≠ 0) := by omega
  have ht : (q.1 : Int).tmod (q.2 : Int) = ((q.1 % q.2 : Nat) : Int) := (Int.ofNat_tmod q.1 q.2).symm
  simp only [hb, hne, ht, RN, qA, qB, qC, qD, qE, qF]
  exact wh_same (q.2, q.1 % q.2) (Nat.mod_lt _ (by omega)) rfl (by simp only; rw [Nat.gcd_comm, ← Nat.gcd_rec, Nat.gcd_comm]; exact hq) (by simp) (by simp) rfl rfl
theorem rGCD_i {a b : Int} (ha : 0 ≤ a) (hb : 0 ≤ b) : Pure C F.ref_GCD [.int .i64 a, .int .i64 b] (.d (.int .i64 (gcdI a b))) [] := by
 have := rGCD_c a.natAbs b.natAbs
 rw [Int.natAbs_of_nonneg ha, Int.natAbs_of_nonneg hb] at this
 exact this
theorem neg_abs {n : Int} : (if -n > n then -n else n) = (n.natAbs : Int) := by split <;> omega
theorem gcdI_abs (n d : Int) : gcdI (n.natAbs : Int) d = gcdI n d := by rw [gcdI, gcdI, Int.natAbs_natCast]
set_option maxRecDepth 10000 in
theorem rlowest_c (num den : Int) (h1 : num.natAbs ≤ 4611686018427387904) (h2 : 1 ≤ den ∧ den ≤ 4611686018427387904) : Pure C F.ref_lowest [.int .i64 num, .int .i64 den] (.d (turnS num den).dv) [] := by
 have hg := rGCD_i (a := (num.natAbs : Int)) (b := den) (by omega) (by omega)
 rw [gcdI_abs] at hg
 have hp := gcdI_pos (a := num) (b := den) (by omega)
 have hne : gcdI num den ≠ 0 := by omega
 have w1 := tdiv_bd num (gcdI num den)
 have w2 := tdiv_bd den (gcdI num den)
 have hn : IntKind.i64.wrap (0 - num) = -num := by rw [w64_in (by omega)]; omega
 have e1 : IntKind.i64.wrap (num.tdiv (gcdI num den)) = num.tdiv (gcdI num den) := w64_in (by omega)
 have e2 : IntKind.i64.wrap (den.tdiv (gcdI num den)) = den.tdiv (gcdI num den) := w64_in (by omega)
 refine pure_of_pwp_d mixed rfl ok_ref_lowest ?_
 simp only [pc_ref_lowest, rs_ref_lowest, hn, neg_abs, RN, qA, qB, qC, qD, qE, qF]
 refine call_d rfl rfl hg ?_
 simp only [hne, e1, e2, dv_Tn, turnS, RN, qA, qB, qC, qD, qE, qF]
 rfl
theorem tnOk_facts {q : Tn} (h : tnOk q = true) : q.num.natAbs ≤ 1000000000000000 ∧ 1 ≤ q.den ∧ q.den ≤ 1000000000000000 := by
 simp only [tnOk, Bool.and_eq_true, decide_eq_true_eq] at h
 omega
theorem tdiv_le {a b : Int} {k : Nat} (h : a.natAbs ≤ k) : (a.tdiv b).natAbs ≤ k := Nat.le_trans (tdiv_bd a b) h
theorem mul_le {a b : Int} {k l : Nat} (h1 : a.natAbs ≤ k) (h2 : b.natAbs ≤ l) : (a * b).natAbs ≤ k * l := by rw [Int.natAbs_mul]; exact Nat.mul_le_mul h1 h2
def slF (o : RrR) : DV := match o with | .go out _ => .slice false ((out.map still).map Tn.dv) | _ => .slice false []
def isGo (o : RrR) : Bool := match o with | .go _ _ => true | _ => false
structure RrS where
 out : List Tn
 ls : List Int
 s : Nat
 ver : Nat
def rrE (p : Piece) (q : RrS) : St := ⟨[(2, .d (.cptr p.cells)), (6, .tsl 1 0 0), (7, .tsl 2 q.ver q.s)], ⟨[some (p.cells.map .d)], [0], [some ⟨2, [], 0, 0⟩, some ⟨2, q.out.map Tn.dv, 0, 1⟩, some ⟨1, q.ls.map intDV, q.ver, 0⟩]⟩⟩
set_option maxRecDepth 10000 in
set_option maxHeartbeats 4000000 in
theorem rRatios_c (p : Piece) (hok : p.ok = true) (w : Nat) (hw : w < p.ws.length) (hn : p.rr w ≠ .none) : Pure C F.ref_Ratios [p.dv, .int .i64 w] (.d (.tup [slF (p.rr w), .bool (isGo (p.rr w))])) [] := by
 have hlen := Piece.ok_lens hok
 have ht50 := Piece.ok_50 hok
 have w0 : (0 : Int) ≤ (w : Int) := by omega
 have z0 : (0 : Int) ≤ 0 := by decide
 have z1 : (0 : Int) ≤ 1 := by decide
 have one2 : (1 : Int).toNat = 1 := rfl
 have hmm := fun a b => rMeshed_c p a b (by omega)
 simp only [dv_Piece] at hmm
 have hnl0 : (0 : Int) ≤ (p.ws.length : Int) := by omega
 have hnl1 : (p.ws.length : Int) ≤ 1048576 := by omega
 have hz : (DV.agg [.int .i64 0, .int .i64 0]).fits 2 = true := rfl
 refine pure_of_pwp_f mixed rfl ok_ref_Ratios ?_
 simp only [pc_ref_Ratios, rs_ref_Ratios, dv_Piece, List.length_map, List.not_mem_nil, ev_mkRow, hnl0, hnl1, hz, Int.toNat_natCast, List.length_replicate, w0, hw, RN, qA, qB, qC, qD, qE, qF]
 have hrep : List.replicate p.ws.length (DV.agg [.int .i64 0, .int .i64 0]) = (List.replicate p.ws.length (⟨0, 0⟩ : Tn)).map Tn.dv := by rw [List.map_replicate, dv_Tn]
 rw [hrep]
 refine store_et (g := ⟨1, 1⟩) rfl (by simpa using hw) ?_
 simp only [ev_mkSl1, DV.strip, dcells_int, ev_asgG_d, fits_int, forall_eq, RN, qA, qB, qC, qD, qE, qF]
 have isW0 : p.isW (w : Int) := ⟨w0, by simpa using hw⟩
 refine pwp_while (fun (q : Nat × RrS) => rrE p q.2)
  (fun q => q.2.s ≤ q.2.ls.length ∧ q.2.out.length = p.ws.length ∧ q.2.ls.length ≤ 2000 ∧ (∀ x ∈ q.2.ls, p.isW x) ∧ p.rr w = p.rrF q.1 q.2.out (q.2.ls.drop q.2.s)) (fun q => q.1)
  (p.ws.length + 1, ⟨(List.replicate p.ws.length ⟨0, 0⟩).set w ⟨1, 1⟩, [(w : Int)], 0, 0⟩) rfl ⟨by simp, by simp, by simp, by simp [isW0], by rw [Piece.rr, Int.toNat_natCast]; rfl⟩ (fun q hq => ?_)
 obtain ⟨k, out, ls, s, ver⟩ := q
 obtain ⟨q1, q2, q3, q4, q5⟩ := hq
 simp only at q1 q2 q3 q4 q5
 by_cases hs : s < ls.length
 case neg =>
  have hs' : s = ls.length := by omega
  have b1 : ¬ ((ls.length - s : Nat) : Int) > 0 := by omega
  simp only [rrE, Piece.cells, List.length_map, b1, RN, qA, qB, qC, qD, qE, qF]
  rw [hs', List.drop_length] at q5
  have q6 : p.rr w = .go out [] := by rw [q5]; cases k <;> rfl
  refine pwp_range p.ws.length (fun i (o : List Tn) => ⟨[(6, .tsl 1 0 0), (17, .d (.int .i64 i))], ⟨[some (p.cells.map .d)], [0], [some ⟨2, [], 0, 0⟩, some ⟨2, o.map Tn.dv, 0, 1⟩, some ⟨1, ls.map intDV, ver, 0⟩]⟩⟩)
   (fun i o => o.length = p.ws.length ∧ ∀ c, c < p.ws.length → o.getD c default = if c < i then still (out.getD c default) else out.getD c default) 0 out (Nat.zero_le _) rfl ⟨q2, fun c _ => rfl⟩ (fun i o h1 hix => ?_) (fun o hix => ?_)
  ·obtain ⟨e1, e2⟩ := hix
   obtain ⟨h2, h3, h6⟩ := rng h1 (by omega)
   have hio : i < o.length := by omega
   have hgi := e2 i h1
   rw [if_neg (by omega)] at hgi
   have l2 : ((o.length : Nat) : Int) = (p.ws.length : Int) := by rw [e1]
   cases hz : ((o.getD i default).den == 0)
   ·have hz' : ¬ (o.getD i default).den = 0 := beq_eq_false_iff_ne.1 hz
    simp only [Nat.sub_zero, l2, h2, h3, hio, Int.toNat_natCast, Piece.cells, List.length_map, getD_map, dv_Tn, hz, h6, RN, qA, qB, qC, qD, qE, qF]
    refine up_same o h1 rfl ⟨e1, fun c hc => ?_⟩ (by simp) (by simp) rfl rfl
    rw [e2 c hc]
    by_cases hci : c = i
    ·subst hci
     rw [if_neg (Nat.lt_irrefl _), if_pos (Nat.lt_succ_self _), still, if_neg (by rw [← hgi]; exact hz')]
    ·by_cases hlt : c < i
     ·rw [if_pos hlt, if_pos (by omega)]
     ·rw [if_neg hlt, if_neg (by omega)]
   ·have hz' : (o.getD i default).den = 0 := beq_iff_eq.1 hz
    simp only [Nat.sub_zero, l2, h2, h3, hio, Int.toNat_natCast, Piece.cells, List.length_map, getD_map, dv_Tn, hz, RN, qA, qB, qC, qD, qE, qF]
    refine store_et (g := ⟨0, 1⟩) rfl hio ?_
    simp only [h6, RN, qA, qB, qC, qD, qE, qF]
    refine up_same (o.set i ⟨0, 1⟩) h1 rfl ⟨by simp [e1], fun c hc => ?_⟩ (by simp) (by simp) rfl rfl
    rw [getD_set hio, e2 c hc]
    by_cases hci : c = i
    ·subst hci
     rw [if_pos rfl, if_pos (Nat.lt_succ_self _), still, if_pos (by rw [← hgi]; exact hz')]
    ·rw [if_neg hci]
     by_cases hlt : c < i
     ·rw [if_pos hlt, if_pos (by omega)]
     ·rw [if_neg hlt, if_neg (by omega)]
  ·obtain ⟨e1, e2⟩ := hix
   have l2 : ((o.length : Nat) : Int) = (p.ws.length : Int) := by rw [e1]
   have ho : o = out.map still := by
    refine List.ext_getElem? fun c => ?_
    rw [List.getElem?_map]
    by_cases hc : c < p.ws.length
    ·have := e2 c hc
     rw [if_pos hc, List.getD_eq_getElem?_getD, List.getElem?_eq_getElem (by omega), Option.getD_some] at this
     rw [List.getElem?_eq_getElem (show c < o.length by omega), List.getElem?_eq_getElem (show c < out.length by omega), Option.map_some, this]
     rw [List.getD_eq_getElem?_getD, List.getElem?_eq_getElem (show c < out.length by omega), Option.getD_some]
    ·rw [List.getElem?_eq_none (by omega), List.getElem?_eq_none (show out.length ≤ c by omega)]; rfl
   simp only [Nat.sub_zero, l2, Int.lt_irrefl, List.length_map, allD_t, Option.map_none, tupO_none, RN, qA, qB, qC, qD, qE, qF]
   rw [q6, ho]
   simp [datum, datum0L, datum0, row_m, slF, isGo]
 have b1 : ((ls.length - s : Nat) : Int) > 0 := by omega
 have b2 : s + Int.toNat 0 < ls.length := hs
 simp only [rrE, Piece.cells, List.length_map, b1, z0, hs, Int.toNat_zero, getD_map, dv_int, RN, qA, qB, qC, qD, qE, qF]
 refine ev_slcL rfl (by decide) (by simp; omega) ?_
 simp only [List.length_map, one2, RN, qA, qB, qC, qD, qE, qF]
 rw [drop_cons hs] at q5
 cases k with
 | zero => exact absurd (by rw [q5, Piece.rrF]) hn
 | succ k =>
 rw [Piece.rrF] at q5
 have hnn : p.rrIn (ls.getD s default) p.ws.length 0 out (ls.drop (s + 1)) ≠ .none := fun h => hn (by rw [q5, h])
 have haW : p.isW (ls.getD s default) := q4 _ (getD_mem hs)
 generalize ls.getD s default = a at *
 obtain ⟨a0, a1⟩ := haW
 obtain ⟨an, rfl⟩ := Int.eq_ofNat_of_zero_le a0
 rw [Int.toNat_natCast] at a1
 refine pwp_range p.ws.length (fun i (r : RrS) => ⟨[(2, .d (.cptr p.cells)), (6, .tsl 1 0 0), (7, .tsl 2 r.ver r.s), (8, .d (.int .i64 an)), (9, .d (.int .i64 i))], ⟨[some (p.cells.map .d)], [0], [some ⟨2, [], 0, 0⟩, some ⟨2, r.out.map Tn.dv, 0, 1⟩, some ⟨1, r.ls.map intDV, r.ver, 0⟩]⟩⟩)
  (fun i r => r.s ≤ r.ls.length ∧ r.out.length = p.ws.length ∧ r.ls.length ≤ 2000 ∧ (∀ x ∈ r.ls, p.isW x) ∧ p.rrIn an p.ws.length 0 out (ls.drop (s + 1)) = p.rrIn an (p.ws.length - i) i r.out (r.ls.drop r.s))
  0 ⟨out, ls, s + 1, ver⟩ (Nat.zero_le _) rfl ⟨by simp only; omega, q2, q3, q4, rfl⟩ (fun i r h1 hix => ?_) (fun r hix => ?_)
 case refine_2 =>
  obtain ⟨out', ls', s', ver'⟩ := r
  obtain ⟨r1, r2, r3, r4, r5⟩ := hix
  simp only at r1 r2 r3 r4 r5
  rw [Nat.sub_self, Piece.rrIn] at r5
  rw [r5] at q5
  simp only [Int.lt_irrefl, Piece.cells, List.length_map, RN, qA, qB, qC, qD, qE, qF]
  exact wh_keep (a := (k + 1, (⟨out, ls, s, ver⟩ : RrS))) (μ := fun q => q.1) [2, 6, 7] (k, ⟨out', ls', s', ver'⟩) (Nat.lt_succ_self _) rfl ⟨r1, r2, r3, r4, q5⟩ (by simp) (by simp) rfl rfl
 obtain ⟨out', ls', s', ver'⟩ := r
 obtain ⟨r1, r2, r3, r4, r5⟩ := hix
 simp only at r1 r2 r3 r4 r5
 obtain ⟨h2, h3, h6⟩ := rng h1 (by omega)
 rw [show p.ws.length - i = (p.ws.length - (i + 1)) + 1 by omega, Piece.rrIn, Int.toNat_natCast] at r5
 by_cases hok2 : (tnOk (out'.getD an default) && decide ((ls'.drop s').length ≤ 1000)) = true
 case neg => rw [if_neg hok2] at r5; exact absurd r5 hnn
 rw [if_pos hok2] at r5
 rw [Bool.and_eq_true, decide_eq_true_eq] at hok2
 obtain ⟨hok3, hok4⟩ := hok2
 obtain ⟨t1, t2, t3⟩ := tnOk_facts hok3
 have hao : an < out'.length := by omega
 have hio : i < out'.length := by omega
 have hd2 : 2 ≤ ((out'.map Tn.dv).getD an default).cells.length := by rw [getD_map hao, dv_Tn]; exact Nat.le_refl _
 have hd3 : DV.agg (List.take 2 ((out'.map Tn.dv).getD an default).cells) = (out'.getD an default).dv := by rw [getD_map hao, dv_Tn]; rfl
 have hsl : p.sleeved (i : Int) an = p.sleeved an i := sleeved_comm p _ _
 have hsl' : p.sleeved an i = ((p.ws.getD an default).centre == (p.ws.getD i default).centre && (p.ws.getD an default).sleeve == (p.ws.getD i default).sleeve) := by simp only [Piece.sleeved, Piece.centred, Piece.wh, Int.toNat_natCast]
 have hmi := hmm an i
 have ta := wh_teeth ht50 a1
 have tb := wh_teeth ht50 h1
 simp only [Piece.wh, Int.toNat_natCast] at ta tb
 simp only [h2, Piece.cells, List.length_map, RN, qA, qB, qC, qD, qE, qF]
 have wayE : ∀ x y z m : Bool, ((i : Int) == (an : Int)) = x → ((p.ws.getD an default).centre == (p.ws.getD i default).centre) = y → ((p.ws.getD an default).sleeve == (p.ws.getD i default).sleeve) = z → p.rmeshed an i = m →
   p.ways an i (out'.getD an default) = (if !x && (y && z) then [out'.getD an default] else []) ++ (if m then [p.rway an i (out'.getD an default)] else []) := fun x y z m hx hy hz hm => by
  rw [Piece.ways, hsl', hx, hy, hz, hm]
 have hfq : ∀ x y : Int, (DV.agg [.int .i64 x, .int .i64 y]).fits 2 = true := fun _ _ => rfl
 have gp := gcdI_pos (a := (p.ws.getD an default).teeth) (b := (p.ws.getD i default).teeth) (by omega)
 have gx := part_pos gp (by omega) (gcdI_l (p.ws.getD an default).teeth (p.ws.getD i default).teeth)
 have gy := part_pos gp (by omega) (gcdI_r (p.ws.getD an default).teeth (p.ws.getD i default).teeth)
 have bx := tdiv_bd (p.ws.getD an default).teeth (gcdI (p.ws.getD an default).teeth (p.ws.getD i default).teeth)
 have by_ := tdiv_bd (p.ws.getD i default).teeth (gcdI (p.ws.getD an default).teeth (p.ws.getD i default).teeth)
 have hrway : p.rway an i (out'.getD an default) = p.rway an i (out'.getD an default) := rfl
 conv at hrway => rhs; rw [Piece.rway]
 simp only [Piece.wh, Int.toNat_natCast] at hrway
 have c1 := rGCD_i (a := (p.ws.getD an default).teeth) (b := (p.ws.getD i default).teeth) (by omega) (by omega)
 have v1 : IntKind.i64.wrap ((p.ws.getD an default).teeth.tdiv (gcdI (p.ws.getD an default).teeth (p.ws.getD i default).teeth)) = (p.ws.getD an default).teeth.tdiv (gcdI (p.ws.getD an default).teeth (p.ws.getD i default).teeth) := w64_in (by omega)
 have v2 : IntKind.i64.wrap ((p.ws.getD i default).teeth.tdiv (gcdI (p.ws.getD an default).teeth (p.ws.getD i default).teeth)) = (p.ws.getD i default).teeth.tdiv (gcdI (p.ws.getD an default).teeth (p.ws.getD i default).teeth) := w64_in (by omega)
 have gn : gcdI (p.ws.getD an default).teeth (p.ws.getD i default).teeth ≠ 0 := by omega
 have hx0 : ((p.ws.getD an default).teeth.tdiv (gcdI (p.ws.getD an default).teeth (p.ws.getD i default).teeth)).natAbs ≤ 50 := by omega
 have hy0 : ((p.ws.getD i default).teeth.tdiv (gcdI (p.ws.getD an default).teeth (p.ws.getD i default).teeth)).natAbs ≤ 50 := by omega
 clear bx by_
 generalize hX : (p.ws.getD an default).teeth.tdiv (gcdI (p.ws.getD an default).teeth (p.ws.getD i default).teeth) = X at *
 generalize hY : (p.ws.getD i default).teeth.tdiv (gcdI (p.ws.getD an default).teeth (p.ws.getD i default).teeth) = Y at *
 have c2 := rGCD_i (a := X) (b := (out'.getD an default).den) (by omega) (by omega)
 have c3 := rGCD_i (a := ((out'.getD an default).num.natAbs : Int)) (b := Y) (by omega) (by omega)
 rw [gcdI_abs] at c3
 have gh := gcdI_pos (a := X) (b := (out'.getD an default).den) (by omega)
 have gk := gcdI_pos (a := (out'.getD an default).num) (b := Y) (by omega)
 have p1 := part_pos gh t2 (gcdI_r X (out'.getD an default).den)
 have p2 := part_pos gk gy (gcdI_r (out'.getD an default).num Y)
 have n1 : gcdI X (out'.getD an default).den ≠ 0 := by omega
 have n2 : gcdI (out'.getD an default).num Y ≠ 0 := by omega
 have u1 := tdiv_le (b := gcdI (out'.getD an default).num Y) t1
 have u2 := tdiv_le (b := gcdI X (out'.getD an default).den) hx0
 have u3 := tdiv_le (b := gcdI X (out'.getD an default).den) (a := (out'.getD an default).den) (k := 1000000000000000) (by omega)
 have u4 := tdiv_le (b := gcdI (out'.getD an default).num Y) hy0
 have m1 := mul_le (a := -((out'.getD an default).num.tdiv (gcdI (out'.getD an default).num Y))) (k := 1000000000000000) (by omega) u2
 have m2 := mul_le u3 u4
 have mp := mul_pos1 p1 p2
 have v3 : IntKind.i64.wrap (0 - (out'.getD an default).num) = -(out'.getD an default).num := by rw [w64_in (by omega)]; omega
 have v4 : IntKind.i64.wrap ((out'.getD an default).num.tdiv (gcdI (out'.getD an default).num Y)) = (out'.getD an default).num.tdiv (gcdI (out'.getD an default).num Y) := w64_in (by omega)
 have v5 : IntKind.i64.wrap (0 - (out'.getD an default).num.tdiv (gcdI (out'.getD an default).num Y)) = -(out'.getD an default).num.tdiv (gcdI (out'.getD an default).num Y) := by rw [w64_in (by omega)]; omega
 have v6 : IntKind.i64.wrap (X.tdiv (gcdI X (out'.getD an default).den)) = X.tdiv (gcdI X (out'.getD an default).den) := w64_in (by omega)
 have v7 : IntKind.i64.wrap ((out'.getD an default).den.tdiv (gcdI X (out'.getD an default).den)) = (out'.getD an default).den.tdiv (gcdI X (out'.getD an default).den) := w64_in (by omega)
 have v8 : IntKind.i64.wrap (Y.tdiv (gcdI (out'.getD an default).num Y)) = Y.tdiv (gcdI (out'.getD an default).num Y) := w64_in (by omega)
 have v9 : IntKind.i64.wrap (-(out'.getD an default).num.tdiv (gcdI (out'.getD an default).num Y) * X.tdiv (gcdI X (out'.getD an default).den)) = -(out'.getD an default).num.tdiv (gcdI (out'.getD an default).num Y) * X.tdiv (gcdI X (out'.getD an default).den) := w64_in (by omega)
 have v10 : IntKind.i64.wrap ((out'.getD an default).den.tdiv (gcdI X (out'.getD an default).den) * Y.tdiv (gcdI (out'.getD an default).num Y)) = (out'.getD an default).den.tdiv (gcdI X (out'.getD an default).den) * Y.tdiv (gcdI (out'.getD an default).num Y) := w64_in (by omega)
 have c4 := rlowest_c _ _ (Nat.le_trans m1 (by decide)) (show 1 ≤ (out'.getD an default).den.tdiv (gcdI X (out'.getD an default).den) * Y.tdiv (gcdI (out'.getD an default).num Y) ∧ (out'.getD an default).den.tdiv (gcdI X (out'.getD an default).den) * Y.tdiv (gcdI (out'.getD an default).num Y) ≤ 4611686018427387904 by omega)
 rw [← hrway] at c4
 rw [dv_Tn] at c4
 clear u1 u2 u3 u4 m1 m2 mp p1 p2
 have hcase : (((i : Int) == (an : Int)) = true ∧ ((p.ws.getD an default).centre == (p.ws.getD i default).centre) = ((p.ws.getD an default).centre == (p.ws.getD i default).centre) ∧ ((p.ws.getD an default).sleeve == (p.ws.getD i default).sleeve) = ((p.ws.getD an default).sleeve == (p.ws.getD i default).sleeve)) ∨ (((i : Int) == (an : Int)) = false ∧ ((p.ws.getD an default).centre == (p.ws.getD i default).centre) = false ∧ ((p.ws.getD an default).sleeve == (p.ws.getD i default).sleeve) = ((p.ws.getD an default).sleeve == (p.ws.getD i default).sleeve)) ∨ (((i : Int) == (an : Int)) = false ∧ ((p.ws.getD an default).centre == (p.ws.getD i default).centre) = true ∧ ((p.ws.getD an default).sleeve == (p.ws.getD i default).sleeve) = false) ∨ (((i : Int) == (an : Int)) = false ∧ ((p.ws.getD an default).centre == (p.ws.getD i default).centre) = true ∧ ((p.ws.getD an default).sleeve == (p.ws.getD i default).sleeve) = true) := by
  cases ((i : Int) == (an : Int)) <;> cases ((p.ws.getD an default).centre == (p.ws.getD i default).centre) <;> cases ((p.ws.getD an default).sleeve == (p.ws.getD i default).sleeve) <;> simp
 have hWl : (p.ways an i (out'.getD an default)).length ≤ 2 := by
  rw [Piece.ways, List.length_append]
  have e : ∀ (b : Bool) (v : Tn), (if b then [v] else []).length ≤ 1 := fun b v => by cases b <;> simp
  have e1 := e (!((i : Int) == an) && p.sleeved an i) (out'.getD an default)
  have e2 := e (p.rmeshed an i) (p.rway an i (out'.getD an default))
  omega
 rcases hcase with ⟨hA, hC, hS⟩ | ⟨hA, hC, hS⟩ | ⟨hA, hC, hS⟩ | ⟨hA, hC, hS⟩
 all_goals
  have nA : ((i : Int) != (an : Int)) = !((i : Int) == (an : Int)) := rfl
  rw [hA] at nA
  simp only [nA, Bool.not_true, Bool.not_false, hC, hS, w0, a0, a1, h1, h3, Int.toNat_natCast, getD_map, dv_Wh, List.length_map, hao, hd2, hd3, dv_Tn, DV.strip, dcells_agg, hfq, forall_eq, RN, qA, qB, qC, qD, qE, qF]
  try (refine ⟨fun hh => (by cases hh), ?_⟩; (try (simp only [RN, qA, qB, qC, qD, qE, qF])))
  refine call_d rfl rfl hmi ?_
  cases hm : p.rmeshed an i
  case' true =>
   simp only [a0, a1, h1, h3, Int.toNat_natCast, getD_map, dv_Wh, List.length_map, RN, qA, qB, qC, qD, qE, qF]
   refine call_d rfl rfl c1 ?_
   simp only [a0, a1, h1, h3, Int.toNat_natCast, getD_map, dv_Wh, List.length_map, gn, hX, hY, v1, v2, hao, dv_Tn, RN, qA, qB, qC, qD, qE, qF]
   refine call_d rfl rfl c2 ?_
   simp only [a0, a1, h1, h3, Int.toNat_natCast, getD_map, dv_Wh, List.length_map, hao, dv_Tn, v3, neg_abs, RN, qA, qB, qC, qD, qE, qF]
   refine call_d rfl rfl c3 ?_
   simp only [a0, a1, h1, h3, Int.toNat_natCast, getD_map, dv_Wh, List.length_map, hao, dv_Tn, v4, v5, v6, v7, v8, v9, v10, n1, n2, RN, qA, qB, qC, qD, qE, qF]
   refine call_d rfl rfl c4 ?_
   simp only [DV.strip, dcells_agg, hfq, forall_eq, RN, qA, qB, qC, qD, qE, qF]
   refine ⟨fun hh => (by cases hh), ?_⟩
  all_goals
   have hWe := wayE _ _ _ _ hA hC hS hm
   try (simp only [RN, qA, qB, qC, qD, qE, qF])
   refine pwp_range (p.ways an i (out'.getD an default)).length (fun j (r : RrS) => ⟨[(2, .d (.cptr p.cells)), (6, .tsl 1 0 0), (7, .tsl 2 r.ver r.s), (8, .d (.int .i64 an)), (9, .d (.int .i64 i)), (10, .tsl 3 (p.ways an i (out'.getD an default)).length 0), (16, .d (.int .i64 j))], ⟨[some (p.cells.map .d)], [0], [some ⟨2, [], 0, 0⟩, some ⟨2, r.out.map Tn.dv, 0, 1⟩, some ⟨1, r.ls.map intDV, r.ver, 0⟩, some ⟨2, (p.ways an i (out'.getD an default)).map Tn.dv, (p.ways an i (out'.getD an default)).length, 0⟩]⟩⟩)
    (fun j r => r.s ≤ r.ls.length ∧ r.out.length = p.ws.length ∧ (r.ls.drop r.s).length ≤ 1000 + j ∧ r.ls.length ≤ 2000 ∧ (∀ x ∈ r.ls, p.isW x) ∧ rrW i (p.ways an i (out'.getD an default)) out' (ls'.drop s') = rrW i ((p.ways an i (out'.getD an default)).drop j) r.out (r.ls.drop r.s))
    0 ⟨out', ls', s', ver'⟩ (Nat.zero_le _) (by rw [hWe]; rfl) ⟨r1, r2, by simpa using hok4, r3, r4, rfl⟩ (fun j r f1 hjx => ?_) (fun r hjx => ?_)
   ·clear hWe wayE
    generalize (p.ways an i (out'.getD an default)) = W at *
    obtain ⟨out2, ls2, s2, ver2⟩ := r
    obtain ⟨x1, x2, x3, x4, x5, x6⟩ := hjx
    simp only at x1 x2 x3 x4 x5 x6
    obtain ⟨f2, f3, f6⟩ := rng f1 (by omega)
    rw [drop_cons f1, rrW] at x6
    have hi2 : i < out2.length := by omega
    have k2 : 2 ≤ ((W.map Tn.dv).getD j default).cells.length := by rw [getD_map f1, dv_Tn]; exact Nat.le_refl _
    have k3 : DV.agg (List.take 2 ((W.map Tn.dv).getD j default).cells) = (W.getD j default).dv := by rw [getD_map f1, dv_Tn]; rfl
    have l2 : 2 ≤ ((out2.map Tn.dv).getD i default).cells.length := by rw [getD_map hi2, dv_Tn]; exact Nat.le_refl _
    have l3 : DV.agg (List.take 2 ((out2.map Tn.dv).getD i default).cells) = (out2.getD i default).dv := by rw [getD_map hi2, dv_Tn]; rfl
    cases hz : ((out2.getD i default).den == 0)
    ·have hz' : ¬ (out2.getD i default).den = 0 := beq_eq_false_iff_ne.1 hz
     rw [if_neg hz'] at x6
     simp only [Nat.sub_zero, f2, f3, f1, h3, hi2, Int.toNat_natCast, Piece.cells, List.length_map, getD_map, dv_Tn, hz, k2, k3, l2, l3, RN, qA, qB, qC, qD, qE, qF]
     rw [ev_binA (cellsEq_tn _ _)]
     by_cases hq : out2.getD i default = W.getD j default
     ·rw [if_pos hq] at x6
      rw [decide_eq_true hq]
      have hx : (true != true) = false := rfl
      simp only [f6, hx, RN, qA, qB, qC, qD, qE, qF]
      exact up_same ⟨out2, ls2, s2, ver2⟩ f1 rfl ⟨x1, x2, by simp only; omega, x4, x5, x6⟩ (by simp) (by simp) rfl rfl
     ·rw [if_neg hq] at x6
      rw [decide_eq_false hq]
      have hx : (false != true) = true := rfl
      simp only [hx, allD_t, Option.map_none, tupO_none, RN, qA, qB, qC, qD, qE, qF]
      rw [x6] at r5
      rw [r5] at q5
      rw [q5]
      simp [datum, datum0L, datum0, row_m, slF, isGo]
    ·have hz' : (out2.getD i default).den = 0 := beq_iff_eq.1 hz
     rw [if_pos hz'] at x6
     simp only [Nat.sub_zero, f2, f3, f1, h3, hi2, Int.toNat_natCast, Piece.cells, List.length_map, getD_map, dv_Tn, hz, k2, k3, RN, qA, qB, qC, qD, qE, qF]
     refine store_et (g := W.getD j default) rfl hi2 ?_
     simp only [ev_mkSl1, fits_int, forall_eq, DV.strip, dcells_int, List.length_map, RN, qA, qB, qC, qD, qE, qF]
     refine ⟨by simp, by omega, ?_⟩
     simp only [f6, RN, qA, qB, qC, qD, qE, qF]
     have hld : (ls2.drop s2).length = ls2.length - s2 := List.length_drop
     refine up_same ⟨out2.set i (W.getD j default), ls2.drop s2 ++ [(i : Int)], 0, ver2 + 1⟩ f1 ?_ ⟨Nat.zero_le _, by simp [x2], by simp only [List.drop_zero, List.length_append, List.length_singleton]; omega, by simp only [List.length_append, List.length_singleton]; omega, ?_, x6⟩ (by simp) (by simp) rfl rfl
     ·simp only [List.map_append, List.map_drop, List.map_cons, List.map_nil, dv_int]; rfl
     ·intro x hx
      rcases List.mem_append.1 hx with hx | hx
      ·exact x5 x (List.mem_of_mem_drop hx)
      ·rw [List.mem_singleton.1 hx]; exact ⟨h3, by simpa using h1⟩
   ·clear hWe wayE
    generalize (p.ways an i (out'.getD an default)) = W at *
    obtain ⟨out2, ls2, s2, ver2⟩ := r
    obtain ⟨x1, x2, x3, x4, x5, x6⟩ := hjx
    simp only at x1 x2 x3 x4 x5 x6
    rw [List.drop_length, rrW] at x6
    rw [x6] at r5
    simp only [Nat.sub_zero, Int.lt_irrefl, Piece.cells, List.length_map, h6, RN, qA, qB, qC, qD, qE, qF]
    exact up_take 1 3 ⟨out2, ls2, s2, ver2⟩ h1 rfl ⟨x1, x2, x4, x5, r5⟩ (by simp) (by simp) rfl rfl
end Go.Tel
open Nat renaming reduceBEq → qA, reduceAdd → qB, reduceSub → qC, reduceEqDiff → qD, reduceLT → qE, reduceLeDiff → qF
namespace Go.Tel
open Go.Am
set_option maxRecDepth 10000 in
set_option maxHeartbeats 4000000 in
theorem PlateRatios_c (hkn : KnownC) (p : Piece) (w : Int) : Pure Go.Tel.C F.law_PlateRatios [p.dv, .int .i64 w] (.d (.bool true)) [] := by
 have hkn : Pure C F.law_known [] (.d (.bool true)) [] := hkn
 have y0 : ((0 : Int) == 0) = true := rfl
 have yn : (((0 : Nat) : Int) == 0) = true := rfl
 have y2 : ((2 : Int) == 2) = true := rfl
 have y7 : ((7 : Int) == 7) = true := rfl
 have hsh := short_c p
 rw [dv_Piece] at hsh
 refine pure_of_pwp_d mixed rfl ok_law_PlateRatios ?_
 simp only [pc_law_PlateRatios, rs_law_PlateRatios, dv_Piece, List.not_mem_nil, RN, qA, qB, qC, qD, qE, qF]
 refine call_d rfl rfl hsh ?_
 cases hs : p.short
 ·simp only [RN, qA, qB, qC, qD, qE, qF]
  refine call_d rfl rfl hkn ?_
  simp only [RN, qA, qB, qC, qD, qE, qF]
 simp only [Piece.short, Bool.and_eq_true, decide_eq_true_eq] at hs
 obtain ⟨⟨s1, s2⟩, s3⟩ := hs
 have h1 := Ratios_c p (by omega) (by omega) (by omega) w (fun h1 h2 => rt_not h1 h2)
 have h2 := rPiece_c p (by omega) (by omega) (by omega)
 have h3 := rWheel_c p w (by omega)
 rw [dv_Piece] at h1 h2 h3
 have l0 : (0 : Int) = 0 := rfl
 simp only [RN, qA, qB, qC, qD, qE, qF]
 cases hok : p.ok
 ·rw [hok] at h2
  have e : p.ratios w = (none, 2) := by rw [Piece.ratios, hok]; rfl
  rw [e] at h1
  refine call_d rfl rfl h1 ?_
  simp only [slD, RN, qA, qB, qC, qD, qE, qF]
  refine call_d rfl rfl h2 ?_
  simp only [y2, y0, yn, RN, qA, qB, qC, qD, qE, qF]
  refine call_d rfl rfl hkn ?_
  simp only [RN, qA, qB, qC, qD, qE, qF]
 rw [hok] at h2
 cases hw : inR w 0 (p.ws.length - 1)
 ·rw [hw] at h3
  have e : p.ratios w = (none, 2) := by rw [Piece.ratios, hok, hw]; rfl
  rw [e] at h1
  refine call_d rfl rfl h1 ?_
  simp only [slD, RN, qA, qB, qC, qD, qE, qF]
  refine call_d rfl rfl h2 ?_
  simp only [RN, qA, qB, qC, qD, qE, qF]
  refine call_d rfl rfl h3 ?_
  simp only [y2, y0, yn, RN, qA, qB, qC, qD, qE, qF]
  refine call_d rfl rfl hkn ?_
  simp only [RN, qA, qB, qC, qD, qE, qF]
 rw [hw] at h3
 have hW : p.isW w := by simp only [inR, Bool.and_eq_true, decide_eq_true_eq] at hw; exact ⟨by omega, by omega⟩
 obtain ⟨w1, w2⟩ := hW
 obtain ⟨n, rfl⟩ := Int.eq_ofNat_of_zero_le w1
 rw [Int.toNat_natCast] at w2
 have hlen := Piece.ok_lens hok
 have hms : ∀ m ∈ p.ms, m.a < m.b := fun m hm => (ok_mss hok m hm).2.1
 have hsim := rr_sim (Piece.ok_50 hok) (by decide) w2 hms (pow_50 hok) (by omega)
 rcases rt_ok hok w2 with ⟨out, g1, F⟩ | ⟨⟨a, b, g1⟩, _⟩
 ·rw [g1] at hsim
  obtain ⟨o', g2, g3⟩ := hsim
  have e : p.ratios n = (some out, 0) := by rw [Piece.ratios, hok, hw, g1]; rfl
  have h4 := rRatios_c p hok n w2 (by rw [g2]; intro hh; cases hh)
  rw [g2] at h4
  have e2 : slF (.go o' []) = .slice false (out.map Tn.dv) := by rw [slF, g3]
  rw [e2, dv_Piece] at h4
  rw [e] at h1
  have hS := SameTurns_c out out (by rw [F.len]; omega)
  rw [decide_eq_true rfl] at hS
  refine call_d rfl rfl h1 ?_
  simp only [slD, RN, qA, qB, qC, qD, qE, qF]
  refine call_d rfl rfl h2 ?_
  simp only [RN, qA, qB, qC, qD, qE, qF]
  refine call_d rfl rfl h3 ?_
  simp only [RN, qA, qB, qC, qD, qE, qF]
  refine call_d rfl rfl h4 ?_
  simp only [isGo, y0, RN, qA, qB, qC, qD, qE, qF]
  refine call_d rfl rfl hS ?_
  simp only [RN, qA, qB, qC, qD, qE, qF]
  refine call_d rfl rfl hkn ?_
  simp only [RN, qA, qB, qC, qD, qE, qF]
 ·rw [g1] at hsim
  have g2 : p.rr n = .locked := hsim
  have e : p.ratios n = (none, 7) := by rw [Piece.ratios, hok, hw, g1]; rfl
  have h4 := rRatios_c p hok n w2 (by rw [g2]; intro hh; cases hh)
  have e3 : slF RrR.locked = .slice false [] := rfl
  have e4 : isGo RrR.locked = false := rfl
  rw [g2, e3, e4, dv_Piece] at h4
  rw [e] at h1
  refine call_d rfl rfl h1 ?_
  simp only [slD, RN, qA, qB, qC, qD, qE, qF]
  refine call_d rfl rfl h2 ?_
  simp only [RN, qA, qB, qC, qD, qE, qF]
  refine call_d rfl rfl h3 ?_
  simp only [RN, qA, qB, qC, qD, qE, qF]
  refine call_d rfl rfl h4 ?_
  simp only [y7, y0, yn, RN, qA, qB, qC, qD, qE, qF]
  refine call_d rfl rfl hkn ?_
  simp only [RN, qA, qB, qC, qD, qE, qF]
end Go.Tel
