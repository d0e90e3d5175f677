/-
  Part 3 of the proof of a law of plates, the law itself: an abstract machine over the model, contracts of functions, plain laws.
  Conditions: none.
-/
import Derived.Test.YtpjjdinlflfgkaaGreatDoorPlateFewestL02
set_option linter.all false
open Nat renaming reduceBEq → qA, reduceAdd → qB, reduceSub → qC, reduceEqDiff → qD, reduceLT → qE, reduceLeDiff → qF
namespace Go.Tel
open Go.Am
theorem firstS_add (s : List Int → Bool) (below : Int) (k : Nat) : ∀ f n : Nat, firstS s below k (f + 1) n = (firstS s below k f n).or ((listsM below (n + f) k).find? s)
 | 0, n => by
  rw [firstS, firstS, Nat.add_zero]
  cases (listsM below n k).find? s <;> rfl
 | f + 1, n => by
  rw [firstS, firstS_add s below k f (n + 1), firstS, show n + (f + 1) = n + 1 + f by omega]
  cases (listsM below n k).find? s <;> rfl
theorem full_eq (below : Int) : ∀ k : Nat, listsM below k k = [(List.range k).map fun (i : Nat) => below - k + i]
 | 0 => by rw [listsM]; rfl
 | k + 1 => by
  rw [listsM, full_eq below k, listsM_gt below (Nat.lt_succ_self k), List.append_nil, List.range_succ_eq_map]
  simp only [List.map_cons, List.map_nil, List.map_map]
  congr 2
  ·omega
  ·congr 1
   funext i
   simp only [Function.comp_apply]
   omega
theorem suits_full (p : Piece) : p.rsuits ((List.range p.ws.length).map fun (i : Nat) => (p.ws.length : Int) - (p.ws.length : Nat) + i) = true := by
 have hl : left ((List.range p.ws.length).map fun (i : Nat) => (p.ws.length : Int) - (p.ws.length : Nat) + i) p.ws.length = [] := by
  rw [left, List.filter_eq_nil_iff]
  intro i hi
  rw [Bool.not_eq_true', Bool.not_eq_false, List.contains_iff_mem, List.mem_map]
  exact ⟨i, hi, by omega⟩
 rw [Piece.rsuits, Piece.rfault]
 have hw : (p.rwithout ((List.range p.ws.length).map fun (i : Nat) => (p.ws.length : Int) - (p.ws.length : Nat) + i)).ws = [] := by
  show Piece.kept _ _ _ = []
  rw [Piece.kept, hl]; rfl
 rw [hw]; rfl
theorem spares_law {p : Piece} (hok : p.ok = true) : p.spares = (some p.rspares, 0) := by
 have hs : (fun gone => (p.fault gone).isNone) = p.rsuits := funext fun gone => fault_gone (ok_mss hok)
 rw [Piece.spares, if_pos hok, hs, best_lists p.rsuits p.ws.length p.ws.length (p.ws.length + 1) (Nat.lt_succ_self _), firstS_add, Piece.rspares, Nat.zero_add, full_eq]
 have hf := suits_full p
 cases firstS p.rsuits p.ws.length p.ws.length p.ws.length 0 with
 | some x => rfl
 | none =>
  rw [List.find?_cons, hf]; rfl
theorem rspares_len (p : Piece) : p.rspares.length ≤ p.ws.length := by
 have h0 : ∀ f n x, firstS p.rsuits p.ws.length p.ws.length f n = some x → x.length ≤ p.ws.length := by
  intro f
  induction f with
  | zero => intro n x h; cases h
  | succ f ih =>
   intro n x h
   rw [firstS] at h
   cases hx : (listsM p.ws.length n p.ws.length).find? p.rsuits with
   | some y =>
    rw [hx] at h
    cases h
    have hm := List.mem_of_find?_eq_some hx
    rw [listsM_all] at hm
    exact allS_len (List.mem_filter.1 hm).1
   | none =>
    rw [hx] at h
    exact ih _ _ h
 rw [Piece.rspares]
 cases hf : firstS p.rsuits p.ws.length p.ws.length p.ws.length 0 with
 | some x => exact h0 _ _ _ hf
 | none => rw [full_eq]; simp
end Go.Tel
namespace Go.Tel
open Go.Am
theorem mem_allS (below : Int) : ∀ (k : Nat) (l : List Int), l ∈ allS below k ↔ (∀ x ∈ l, below - k ≤ x ∧ x < below) ∧ l.Pairwise (· < ·)
 | k, [] => by simp [allS]
 | 0, x :: l => by
  constructor
  ·intro h; simp [allS, allR] at h
  ·rintro ⟨h, _⟩
   have := h x List.mem_cons_self
   omega
 | k + 1, x :: l => by
  have ih := mem_allS below k
  rw [allS, List.mem_cons, allR, List.mem_append, List.mem_map]
  constructor
  ·rintro (h | ⟨y, hy, he⟩ | h)
   ·cases h
   ·obtain ⟨rfl, rfl⟩ := List.cons.inj he
    obtain ⟨h1, h2⟩ := (ih y).1 hy
    refine ⟨fun z hz => ?_, List.pairwise_cons.2 ⟨fun z hz => ?_, h2⟩⟩
    ·rcases List.mem_cons.1 hz with rfl | hz
     ·omega
     ·have := h1 z hz; omega
    ·have := h1 z hz; omega
   ·obtain ⟨h1, h2⟩ := (ih (x :: l)).1 (List.mem_cons_of_mem _ h)
    exact ⟨fun z hz => by have := h1 z hz; omega, h2⟩
  ·rintro ⟨h1, h2⟩
   right
   have hp := List.pairwise_cons.1 h2
   have hx := h1 x List.mem_cons_self
   by_cases e : x = below - (k + 1 : Nat)
   ·left
    refine ⟨l, (ih l).2 ⟨fun z hz => ?_, hp.2⟩, by rw [e]⟩
    have := hp.1 z hz
    have := h1 z (List.mem_cons_of_mem _ hz)
    omega
   ·right
    have : x :: l ∈ allS below k := (ih (x :: l)).2 ⟨fun z hz => by
     have hz' := h1 z hz
     rcases List.mem_cons.1 hz with rfl | hz2
     ·omega
     ·have := hp.1 z hz2; omega, h2⟩
    rcases List.mem_cons.1 this with h | h
    ·cases h
    ·exact h
theorem incGo_pw {B : Int} : ∀ {l : List Int} {prev : Option Int}, incGo B prev l = true ↔ (∀ x ∈ l, 0 ≤ x ∧ x ≤ B - 1) ∧ l.Pairwise (· < ·) ∧ ∀ q x, prev = some q → l.head? = some x → q < x
 | [], prev => by simp [incGo]
 | y :: l, prev => by
  have ih := incGo_pw (B := B) (l := l) (prev := some y)
  rw [incGo, Bool.and_eq_true, Bool.and_eq_true, ih]
  simp only [inR, Bool.and_eq_true, decide_eq_true_eq, Bool.not_eq_true', ge_iff_le]
  constructor
  ·rintro ⟨⟨h1, h2⟩, h3, h4, h5⟩
   refine ⟨fun z hz => ?_, List.pairwise_cons.2 ⟨fun z hz => ?_, h4⟩, fun q x hq hx => ?_⟩
   ·rcases List.mem_cons.1 hz with rfl | hz
    ·exact h1
    ·exact h3 z hz
   ·cases l with
    | nil => cases hz
    | cons w l =>
     have h0 := h5 y w rfl rfl
     rcases List.mem_cons.1 hz with rfl | hz
     ·exact h0
     ·have := (List.pairwise_cons.1 h4).1 z hz; omega
   ·cases hx
    subst hq
    simp only [above, decide_eq_false_iff_not] at h2
    omega
  ·rintro ⟨h1, h2, h3⟩
   have hp := List.pairwise_cons.1 h2
   refine ⟨⟨h1 y List.mem_cons_self, ?_⟩, fun z hz => h1 z (List.mem_cons_of_mem _ hz), hp.2, fun q x hq hx => ?_⟩
   ·cases prev with
    | none => rfl
    | some q =>
     have := h3 q y rfl rfl
     simp only [above, decide_eq_false_iff_not]; omega
   ·cases hq
    cases l with
    | nil => cases hx
    | cons w l => cases hx; exact hp.1 x List.mem_cons_self
theorem inc_allS {n : Nat} {l : List Int} : incGo (n : Int) none l = true ↔ l ∈ allS (n : Int) n := by
 rw [incGo_pw, mem_allS]
 constructor
 ·rintro ⟨h1, h2, _⟩
  exact ⟨fun x hx => by have := h1 x hx; omega, h2⟩
 ·rintro ⟨h1, h2⟩
  exact ⟨fun x hx => by have := h1 x hx; omega, h2, fun q x hq => by cases hq⟩
theorem mssOk_iff {n : Int} : ∀ {ms pre : List Ms}, mssOk n pre ms = true ↔ (∀ m ∈ ms, 0 ≤ m.a ∧ m.a < m.b ∧ m.b ≤ n - 1) ∧ ms.Pairwise (· ≠ ·) ∧ ∀ m ∈ ms, m ∉ pre
 | [], pre => by simp [mssOk]
 | x :: ms, pre => by
  rw [mssOk, Bool.and_eq_true, Bool.and_eq_true, mssOk_iff]
  simp only [inR, Bool.and_eq_true, decide_eq_true_eq, Bool.not_eq_true', decide_eq_false_iff_not, ge_iff_le]
  constructor
  ·rintro ⟨⟨⟨⟨h1, h2⟩, h3⟩, h4⟩, h5, h6, h7⟩
   have h4' : x ∉ pre := fun hh => by rw [List.contains_iff_mem.2 hh] at h4; cases h4
   refine ⟨fun m hm => ?_, List.pairwise_cons.2 ⟨fun m hm e => ?_, h6⟩, fun m hm hp => ?_⟩
   ·rcases List.mem_cons.1 hm with rfl | hm
    ·omega
    ·exact h5 m hm
   ·exact h7 m hm (by rw [← e]; simp)
   ·rcases List.mem_cons.1 hm with rfl | hm
    ·exact h4' hp
    ·exact h7 m hm (by simp [hp])
  ·rintro ⟨h1, h2, h3⟩
   have hp := List.pairwise_cons.1 h2
   have hx := h1 x List.mem_cons_self
   refine ⟨⟨⟨⟨by omega, by omega⟩, by omega⟩, ?_⟩, fun m hm => h1 m (List.mem_cons_of_mem _ hm), hp.2, fun m hm hh => ?_⟩
   ·rw [← Bool.not_eq_true, List.contains_iff_mem]
    exact h3 x List.mem_cons_self
   ·rcases List.mem_append.1 hh with hh | hh
    ·exact h3 m (List.mem_cons_of_mem _ hm) hh
    ·exact hp.1 m hm (List.mem_singleton.1 hh).symm
theorem newM_some {gone : List Int} {m m' : Ms} (h : newM gone m = some m') : gone.contains ((m.a.toNat : Nat) : Int) = false ∧ gone.contains ((m.b.toNat : Nat) : Int) = false ∧ m' = ⟨((left gone m.a.toNat).length : Nat), ((left gone m.b.toNat).length : Nat)⟩ := by
 have hnum : ∀ k : Nat, numOf gone k ≥ 0 → gone.contains (k : Int) = false ∧ numOf gone k = ((left gone k).length : Int) := by
  intro k hk
  rw [numOf] at hk ⊢
  cases hc : gone.contains (k : Int)
  ·exact ⟨rfl, by rw [if_neg (by decide)]⟩
  ·rw [hc, if_pos rfl] at hk; omega
 rw [newM] at h
 split at h
 ·rename_i hc
  rw [Bool.and_eq_true, decide_eq_true_eq, decide_eq_true_eq] at hc
  cases h
  obtain ⟨x1, x2⟩ := hnum _ hc.1
  obtain ⟨y1, y2⟩ := hnum _ hc.2
  exact ⟨x1, y1, by rw [x2, y2]⟩
 ·cases h
theorem without_ok {p : Piece} (hok : p.ok = true) (gone : List Int) : (p.rwithout gone).ok = true := by
 have hl := Piece.ok_lens hok
 simp only [Piece.ok, Bool.and_eq_true] at hok ⊢
 obtain ⟨⟨⟨⟨h1, h2⟩, h3⟩, h4⟩, h5⟩ := hok
 have hq : (p.rwithout gone).ws.length = (left gone p.ws.length).length := by simp [Piece.rwithout, Piece.kept]
 have hll := left_len gone p.ws.length
 have hml := List.length_filterMap_le (newM gone) p.ms
 obtain ⟨m1, m2, _⟩ := mssOk_iff.1 h4
 refine ⟨⟨⟨⟨h1, ?_⟩, h3⟩, ?_⟩, ?_⟩
 ·have e : (p.rwithout gone).ms.length ≤ 10 := by show (p.ms.filterMap (newM gone)).length ≤ 10; omega
  have e2 : (p.rwithout gone).cs = p.cs := rfl
  simp only [Piece.lensOk, inR, Bool.and_eq_true, decide_eq_true_eq, Bool.not_eq_true', decide_eq_false_iff_not, e2, hq]
  omega
 ·refine mssOk_iff.2 ⟨fun m' hm' => ?_, ?_, fun m _ h => by cases h⟩
  ·obtain ⟨m, hm, hn⟩ := List.mem_filterMap.1 (show m' ∈ p.ms.filterMap (newM gone) from hm')
   obtain ⟨a1, a2, rfl⟩ := newM_some hn
   have hb := m1 m hm
   have i1 := pos_lt a1 (show m.a.toNat < m.b.toNat by omega)
   have i2 := (List.getElem?_eq_some_iff.1 (left_get a2 (show m.b.toNat < p.ws.length by omega))).1
   rw [hq]
   simp only
   omega
  ·show (p.ms.filterMap (newM gone)).Pairwise (· ≠ ·)
   rw [List.pairwise_filterMap]
   refine List.Pairwise.imp_of_mem ?_ m2
   intro x y hx hy hne b hb b' hb' e
   obtain ⟨a1, a2, rfl⟩ := newM_some hb
   obtain ⟨b1, b2, e2⟩ := newM_some hb'
   rw [← e] at e2
   simp only [Ms.mk.injEq] at e2
   have j1 := pos_inj a1 b1 (by omega)
   have j2 := pos_inj a2 b2 (by omega)
   have := m1 x hx
   have := m1 y hy
   apply hne
   cases x; cases y
   simp only [Ms.mk.injEq] at *
   omega
 ·rw [List.all_eq_true] at h5 ⊢
  intro w hw
  exact h5 w (kept_mem (Nat.le_refl _) w hw)
theorem cmpL_self : ∀ l : List Int, cmpL l l = 0
 | [] => rfl
 | x :: l => by rw [cmpL, if_neg (by omega), if_neg (by omega)]; exact cmpL_self l
theorem spares_min {p : Piece} (hok : p.ok = true) : p.rspares ∈ allS (p.ws.length : Int) p.ws.length ∧ p.rsuits p.rspares = true ∧
  ∀ o ∈ allS (p.ws.length : Int) p.ws.length, p.rsuits o = true → ¬ (o.length < p.rspares.length ∨ o.length = p.rspares.length ∧ cmpL o p.rspares < 0) := by
 have hs : (fun gone => (p.fault gone).isNone) = p.rsuits := funext fun gone => fault_gone (ok_mss hok)
 have h := spares_law hok
 rw [Piece.spares, if_pos hok, hs, someS_lex] at h
 have h1 := (Prod.mk.inj h).1
 have hp := (allR_ord (p.ws.length : Int) p.ws.length).filter (p := p.rsuits)
 rcases best_first hp with ⟨_, h2⟩ | ⟨r, h2, h3⟩
 ·rw [h2] at h1; cases h1
 ·rw [h2] at h1
  cases h1
  obtain ⟨A, B, hL, hA, hB⟩ := h3
  have hr := List.mem_filter.1 (show p.rspares ∈ (allS (p.ws.length : Int) p.ws.length).filter p.rsuits by rw [hL]; simp)
  refine ⟨hr.1, hr.2, fun o ho hs' hc => ?_⟩
  have hm : o ∈ A ++ p.rspares :: B := by rw [← hL]; exact List.mem_filter.2 ⟨ho, hs'⟩
  rw [hL] at hp
  rcases List.mem_append.1 hm with hm | hm
  ·have := hA o hm; omega
  ·rcases List.mem_cons.1 hm with he | hm
   ·rw [he] at hc
    rcases hc with hc | ⟨_, hc⟩
    ·omega
    ·rw [cmpL_self] at hc; omega
   ·have hb := hB o hm
    have ho := (List.pairwise_cons.1 (List.pairwise_append.1 hp).2.1).1 o hm
    rcases hc with hc | ⟨h4, h5⟩
    ·omega
    ·exact ho h4.symm h5
end Go.Tel
open Nat renaming reduceBEq → qA, reduceAdd → qB, reduceSub → qC, reduceEqDiff → qD, reduceLT → qE, reduceLeDiff → qF
namespace Go.Tel
open Go.Am
set_option maxRecDepth 10000 in
theorem rRising_c (l : List Int) (n : Nat) (hn : n ≤ 1000) (hl : l.length ≤ 1000) : Pure C F.ref_Rising [.slice false (l.map intDV), .int .i64 n] (.d (.bool (incGo n none l))) [] := by
 have w1 : IntKind.i64.wrap ((n : Int) - 1) = (n : Int) - 1 := w64_in (by omega)
 refine pure_of_pwp_d mixed rfl ok_ref_Rising ?_
 simp only [pc_ref_Rising, rs_ref_Rising, RN, qA, qB, qC, qD, qE, qF]
 refine pwp_range l.length (fun i (_ : Unit) => ⟨[(0, .d (.slice false (l.map intDV))), (1, .d (.int .i64 n)), (5, .d (.int .i64 i))], ⟨[], [], []⟩⟩)
  (fun i _ => incGo n none l = incGo n (prevOf l i) (l.drop i)) 0 () (Nat.zero_le _) rfl rfl (fun i _ g1 hix => ?_) (fun _ hix => ?_)
 ·obtain ⟨g2, g3, g6⟩ := rng g1 (by omega)
  have hp : prevOf l (i + 1) = some (l.getD i default) := by rw [prevOf, if_neg (by omega), Nat.add_sub_cancel]
  rw [drop_cons g1, incGo, ← hp] at hix
  simp only [List.length_map, g2, g3, g1, Int.toNat_natCast, getD_map, dv_int, w1, RN, qA, qB, qC, qD, qE, qF]
  refine call_d rfl rfl (rin_c _ _ _) ?_
  cases h1 : inR (l.getD i default) 0 ((n : Int) - 1)
  ·rw [h1, Bool.false_and, Bool.false_and] at hix
   simp only [RN, qA, qB, qC, qD, qE, qF]
   rw [hix]
  rw [h1, Bool.true_and] at hix
  by_cases hi : i = 0
  ·have hz : ¬ (i : Int) > 0 := by omega
   have ha : above (prevOf l i) (l.getD i default) = false := by rw [prevOf, if_pos hi]; rfl
   rw [ha, Bool.not_false, Bool.true_and] at hix
   simp only [hz, g6, RN, qA, qB, qC, qD, qE, qF]
   exact up_same () g1 rfl hix (by simp) (by simp) rfl rfl
  have hz : (i : Int) > 0 := by omega
  have w2 : IntKind.i64.wrap ((i : Int) - 1) = ((i - 1 : Nat) : Int) := by rw [w64_in (by omega)]; omega
  have q1 : (0 : Int) ≤ ((i - 1 : Nat) : Int) := by omega
  have q2 : i - 1 < l.length := by omega
  have ha : above (prevOf l i) (l.getD i default) = decide (l.getD i default ≤ l.getD (i - 1) default) := by rw [prevOf, if_neg hi]; rfl
  rw [ha] at hix
  by_cases hle : l.getD i default ≤ l.getD (i - 1) default
  ·rw [decide_eq_true hle, Bool.not_true, Bool.false_and] at hix
   simp only [hz, g3, g1, w2, q1, q2, hle, Int.toNat_natCast, getD_map, dv_int, List.length_map, RN, qA, qB, qC, qD, qE, qF]
   rw [hix]
  ·rw [decide_eq_false hle, Bool.not_false, Bool.true_and] at hix
   simp only [hz, g3, g1, w2, q1, q2, hle, Int.toNat_natCast, getD_map, dv_int, List.length_map, g6, RN, qA, qB, qC, qD, qE, qF]
   exact up_same () g1 rfl hix (by simp) (by simp) rfl rfl
 ·rw [List.drop_length, incGo] at hix
  simp only [Int.lt_irrefl, List.length_map, RN, qA, qB, qC, qD, qE, qF]
  rw [hix]
set_option maxRecDepth 10000 in
theorem rBefore_c (a b : List Int) (ha : a.length ≤ 1000) (hb : b.length ≤ 1000) : Pure C F.ref_Before [.slice false (a.map intDV), .slice false (b.map intDV)] (.d (.bool (decide (cmpL a b < 0)))) [] := by
 refine pure_of_pwp_d mixed rfl ok_ref_Before ?_
 simp only [pc_ref_Before, rs_ref_Before, RN, qA, qB, qC, qD, qE, qF]
 refine pwp_range (min a.length b.length) (fun i (_ : Unit) => ⟨[(0, .d (.slice false (a.map intDV))), (1, .d (.slice false (b.map intDV))), (5, .d (.int .i64 i))], ⟨[], [], []⟩⟩)
  (fun i _ => cmpL a b = cmpL (a.drop i) (b.drop i)) 0 () (Nat.zero_le _) rfl rfl (fun i _ g1 hix => ?_) (fun _ hix => ?_)
 ·obtain ⟨ga, g3, g6⟩ := rng (show i < a.length by omega) (by omega)
  obtain ⟨gb, _, _⟩ := rng (show i < b.length by omega) (by omega)
  have ka : i < a.length := by omega
  have kb : i < b.length := by omega
  rw [drop_cons ka, drop_cons kb, cmpL] at hix
  by_cases he : a.getD i default = b.getD i default
  ·have e1 : (a.getD i default != b.getD i default) = false := by rw [bne, beq_iff_eq.2 he]; rfl
   rw [if_neg (by omega), if_neg (by omega)] at hix
   simp only [List.length_map, ga, gb, g3, ka, kb, Int.toNat_natCast, getD_map, dv_int, e1, g6, RN, qA, qB, qC, qD, qE, qF]
   exact up_same () g1 rfl hix (by simp) (by simp) rfl rfl
  ·have e1 : (a.getD i default != b.getD i default) = true := by rw [bne, beq_eq_false_iff_ne.2 he]; rfl
   simp only [List.length_map, ga, gb, g3, ka, kb, Int.toNat_natCast, getD_map, dv_int, e1, RN, qA, qB, qC, qD, qE, qF]
   by_cases hlt : a.getD i default < b.getD i default
   ·rw [if_pos hlt] at hix
    rw [hix, decide_eq_true hlt]; rfl
   ·rw [if_neg hlt, if_pos (by omega)] at hix
    rw [hix, decide_eq_false hlt]; rfl
 ·by_cases h1 : a.length < b.length
  ·have c1 : ¬ ((min a.length b.length : Nat) : Int) < (a.length : Int) := by omega
   have c2 : (a.length : Int) < (b.length : Int) := by omega
   rw [List.drop_of_length_le (l := a) (by omega), show min a.length b.length = a.length by omega, drop_cons h1] at hix
   simp only [List.length_map, c1, c2, RN, qA, qB, qC, qD, qE, qF]
   rw [hix]; rfl
  ·have c2 : ¬ (a.length : Int) < (b.length : Int) := by omega
   have c3 : ¬ ((min a.length b.length : Nat) : Int) < (b.length : Int) := by omega
   have hf : ¬ cmpL a b < 0 := by
    rw [hix, List.drop_of_length_le (l := b) (by omega)]
    cases a.drop (min a.length b.length) <;> (rw [cmpL]; omega)
   by_cases c1 : ((min a.length b.length : Nat) : Int) < (a.length : Int)
   ·simp only [List.length_map, c1, c2, c3, RN, qA, qB, qC, qD, qE, qF]
    rw [decide_eq_false hf]
   ·simp only [List.length_map, c1, c2, RN, qA, qB, qC, qD, qE, qF]
    rw [decide_eq_false hf]
set_option maxRecDepth 10000 in
set_option maxHeartbeats 2000000 in
theorem PlateFewest_c (hkn : KnownC) (p : Piece) (o : List Int) : Pure Go.Tel.C F.law_PlateFewest [p.dv, .slice false (o.map intDV)] (.d (.bool true)) [] := by
 have hkn : Pure C F.law_known [] (.d (.bool true)) [] := hkn
 have n0 : ((0 : Int) != 0) = false := rfl
 have n5 : ((5 : Int) != 5) = false := rfl
 have y0 : ((0 : Int) == 0) = true := rfl
 have hsh := short_c p
 rw [dv_Piece] at hsh
 refine pure_of_pwp_d mixed rfl ok_law_PlateFewest ?_
 simp only [pc_law_PlateFewest, rs_law_PlateFewest, dv_Piece, List.not_mem_nil, RN, qA, qB, qC, qD, qE, qF]
 refine call_d rfl rfl hsh ?_
 cases hs : p.short
 ·simp only [RN, qA, qB, qC, qD, qE, qF]
  refine call_d rfl rfl hkn ?_
  simp only [RN, qA, qB, qC, qD, qE, qF]
 simp only [Piece.short, Bool.and_eq_true, decide_eq_true_eq] at hs
 obtain ⟨⟨s1, s2⟩, s3⟩ := hs
 by_cases ho : (o.length : Int) > 9
 ·simp only [List.length_map, ho, RN, qA, qB, qC, qD, qE, qF]
  refine call_d rfl rfl hkn ?_
  simp only [RN, qA, qB, qC, qD, qE, qF]
 have h1 := rPiece_c p (by omega) (by omega) (by omega)
 have h2 := rRising_c o p.ws.length (by omega) (by omega)
 have h3 := Spares_c lay_c fault_c p (by omega) (by omega) (by omega)
 rw [dv_Piece] at h1 h3
 simp only [List.length_map, ho, RN, qA, qB, qC, qD, qE, qF]
 refine call_d rfl rfl h1 ?_
 cases hok : p.ok
 ·simp only [RN, qA, qB, qC, qD, qE, qF]
  refine call_d rfl rfl hkn ?_
  simp only [RN, qA, qB, qC, qD, qE, qF]
 simp only [List.length_map, RN, qA, qB, qC, qD, qE, qF]
 refine call_d rfl rfl h2 ?_
 cases hri : incGo (p.ws.length : Int) none o
 ·simp only [RN, qA, qB, qC, qD, qE, qF]
  refine call_d rfl rfl hkn ?_
  simp only [RN, qA, qB, qC, qD, qE, qF]
 have hms := ok_mss hok
 have hml := (Piece.ok_lens hok).2.2
 obtain ⟨m1, m2, m3⟩ := spares_min hok
 have hwo := fun gone (h : gone.length ≤ 1000) => rWithout_c p gone h (by omega) (by omega) (fun m hm => by have := hms m hm; omega)
 rw [dv_Piece] at hwo
 have hqok := without_ok hok
 have hfa := fun gone => Fault_c lay_c fault_c (p.rwithout gone) (by have := (Piece.ok_lens (hqok gone)); omega) (by have := (Piece.ok_lens (hqok gone)); omega) (by have := (Piece.ok_lens (hqok gone)); omega)
 have hrl := rspares_len p
 have hr2 := rRising_c p.rspares p.ws.length (by omega) (by omega)
 rw [inc_allS.2 m1] at hr2
 rw [spares_law hok, bestD_s] at h3
 have hf1 : (p.rwithout p.rspares).Fault = (default, 5) := by
  rw [Fault_of (hqok _)]
  have : (p.rwithout p.rspares).rfault = none := by simpa [Piece.rsuits] using m2
  rw [this]
 have hbf := rBefore_c o p.rspares (by omega) (by omega)
 have hso : ¬ (o.length < p.rspares.length ∨ o.length = p.rspares.length ∧ cmpL o p.rspares < 0) ∨ ∃ f, (p.rwithout o).Fault = (f, 0) := by
  by_cases hc : o.length < p.rspares.length ∨ o.length = p.rspares.length ∧ cmpL o p.rspares < 0
  ·right
   have hns : p.rsuits o ≠ true := fun hh => m3 o (inc_allS.1 hri) hh hc
   rw [Piece.rsuits] at hns
   cases hx : (p.rwithout o).rfault with
   | none => rw [hx] at hns; exact absurd rfl hns
   | some f => exact ⟨f, by rw [Fault_of (hqok _), hx]⟩
  ·exact .inl hc
 have d0 : (default : Flt).dv = .agg [.int .i64 0, .int .i64 0, .int .i64 0] := rfl
 have hfr := hfa p.rspares
 rw [hf1] at hfr
 generalize p.rspares = r at *
 have g1 : ¬ (r.length : Int) > (p.ws.length : Int) := by omega
 simp only [RN, qA, qB, qC, qD, qE, qF]
 refine call_d rfl rfl h3 ?_
 simp only [n0, g1, List.length_map, RN, qA, qB, qC, qD, qE, qF]
 refine call_d rfl rfl hr2 ?_
 simp only [RN, qA, qB, qC, qD, qE, qF]
 refine call_d rfl rfl (hwo r (by omega)) ?_
 refine call_d rfl (strip_P _) hfr ?_
 simp only [d0, n5, List.length_map, RN, qA, qB, qC, qD, qE, qF]
 by_cases c1 : (o.length : Int) > (r.length : Int)
 ·simp only [c1, RN, qA, qB, qC, qD, qE, qF]
  refine call_d rfl rfl hkn ?_
  simp only [RN, qA, qB, qC, qD, qE, qF]
 by_cases c2 : (o.length : Int) = (r.length : Int)
 ·have e1 : ((o.length : Int) == (r.length : Int)) = true := beq_iff_eq.2 c2
  simp only [c1, e1, List.length_map, RN, qA, qB, qC, qD, qE, qF]
  refine call_d rfl rfl hbf ?_
  by_cases c3 : cmpL o r < 0
  ·rw [decide_eq_true c3]
   obtain ⟨f, hf⟩ : ∃ f, (p.rwithout o).Fault = (f, 0) := by
    rcases hso with h | h
    ·exact absurd (.inr ⟨by omega, c3⟩) h
    ·exact h
   have hfo := hfa o
   rw [hf] at hfo
   simp only [RN, qA, qB, qC, qD, qE, qF]
   refine call_d rfl rfl (hwo o (by omega)) ?_
   refine call_d rfl (strip_P _) hfo ?_
   simp only [dv_Flt, y0, RN, qA, qB, qC, qD, qE, qF]
   refine call_d rfl rfl hkn ?_
   simp only [RN, qA, qB, qC, qD, qE, qF]
  ·rw [decide_eq_false c3]
   simp only [RN, qA, qB, qC, qD, qE, qF]
   refine call_d rfl rfl hkn ?_
   simp only [RN, qA, qB, qC, qD, qE, qF]
 ·have e1 : ((o.length : Int) == (r.length : Int)) = false := beq_eq_false_iff_ne.2 c2
  obtain ⟨f, hf⟩ : ∃ f, (p.rwithout o).Fault = (f, 0) := by
   rcases hso with h | h
   ·exact absurd (.inl (by omega)) h
   ·exact h
  have hfo := hfa o
  rw [hf] at hfo
  simp only [c1, e1, List.length_map, RN, qA, qB, qC, qD, qE, qF]
  refine call_d rfl rfl (hwo o (by omega)) ?_
  refine call_d rfl (strip_P _) hfo ?_
  simp only [dv_Flt, y0, RN, qA, qB, qC, qD, qE, qF]
  refine call_d rfl rfl hkn ?_
  simp only [RN, qA, qB, qC, qD, qE, qF]
end Go.Tel
