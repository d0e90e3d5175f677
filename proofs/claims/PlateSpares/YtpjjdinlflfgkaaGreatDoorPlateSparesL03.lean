/-
  Part 3 of the proof of a law of plates, the law itself: an abstract machine over the model, contracts of functions, plain laws.
  Conditions: none.
-/
import Derived.Test.YtpjjdinlflfgkaaGreatDoorPlateSparesL02
set_option linter.all false
open Nat renaming reduceBEq → qA, reduceAdd → qB, reduceSub → qC, reduceEqDiff → qD, reduceLT → qE, reduceLeDiff → qF
namespace Go.Am
theorem ev_mkSl1t {C : Ctx} {base : Nat} {K : PV → Mem → Prop} {KP : DV → Mem → Prop} {z : DV} {k ver sz st : Nat} {xs : List DV} {bs : List (Option (List PV))} {fz : List Nat} {ar : List (Option Arr)} (h : ar[k]? = some (some ⟨sz, xs, ver, st⟩)) :
  runOp C base (.mkSl 1 [z] [0]) [.tsl k ver 0] ⟨bs, fz, ar⟩ K KP = K (.d (.slice true [.slice false xs])) ⟨bs, fz, ar.set k (some ⟨sz, xs, ver, 2⟩)⟩ := by
 have h1 : datumL ⟨bs, fz, ar⟩ [.tsl k ver 0] = some [.slice false xs] := by
  simp only [datumL, datum_tsl h rfl, List.drop_zero]
 rw [ev_mkSl h1 (xs := [.slice false xs]) rfl, frz_t h]
end Go.Am
namespace Go.Tel
open Go.Am
theorem listsM_len (below : Int) (m k : Nat) : (listsM below m k).length ≤ 2 ^ k := by
 have : ∀ k, (allS below k).length ≤ 2 ^ k := fun k => by
  induction k with
  | zero => simp [allS, allR]
  | succ k ih =>
   have e : (allS below (k + 1)).length = (allS below k).length + (allS below k).length := by
    simp only [allS, allR, List.length_cons, List.length_append, List.length_map]; omega
   rw [e, Nat.pow_succ]; omega
 rw [listsM_all]
 exact Nat.le_trans (List.length_filter_le _ _) (this k)
theorem lists_mlen {below : Int} {m k : Nat} {x : List Int} (h : x ∈ listsM below m k) : x.length = m := by
 rw [listsM_all] at h
 simpa using (List.mem_filter.1 h).2
theorem listsM_gt (below : Int) {m k : Nat} (h : k < m) : listsM below m k = [] := by
 rw [listsM_all, List.filter_eq_nil_iff]
 intro x hx
 have := allS_len hx
 simp only [decide_eq_true_eq]; omega
theorem listsM_full (below : Int) : ∀ k : Nat, ∃ x, listsM below k k = [x]
 | 0 => ⟨[], by rw [listsM]⟩
 | k + 1 => by
  obtain ⟨x, hx⟩ := listsM_full below k
  exact ⟨_, by rw [listsM, hx, listsM_gt below (Nat.lt_succ_self k), List.append_nil]; rfl⟩
set_option maxRecDepth 10000 in
set_option maxHeartbeats 2000000 in
theorem rLists_c (B : Nat) (hB : B ≤ 10) : ∀ (m k : Nat), m ≤ 20 → k ≤ B → Pure C F.ref_Lists [.int .i64 ((B : Int) - k), .int .i64 B, .int .i64 m] (.d (.slice false ((listsM B m k).map dvL))) [] := by
 intro m
 induction m with
 | zero =>
  intro k _ hk
  refine pure_of_pwp_fs mixed rfl ok_ref_Lists ?_
  have e : (((0 : Nat) : Int) == 0) = true := rfl
  simp only [pc_ref_Lists, rs_ref_Lists, e, ev_mkSl1, DV.strip, dcells_slice, RN, qA, qB, qC, qD, qE, qF]
  exact ⟨_, rfl, by rw [listsM]; rfl⟩
 | succ m ih =>
  intro k hm hk
  have e : (((m + 1 : Nat) : Int) == 0) = false := beq_eq_false_iff_ne.2 (by omega)
  have em : IntKind.i64.wrap (((m + 1 : Nat) : Int) - 1) = (m : Int) := by rw [w64_in (by omega)]; omega
  refine pure_of_pwp_fs mixed rfl ok_ref_Lists ?_
  simp only [pc_ref_Lists, rs_ref_Lists, e, RN, qA, qB, qC, qD, qE, qF]
  refine pwp_range k (fun i (q : List (List Int) × Nat) => ⟨[(1, .d (.int .i64 B)), (2, .d (.int .i64 ((m + 1 : Nat) : Int))), (7, .tsl 1 q.2 0), (8, .d (.int .i64 ((B : Int) - k + i)))], ⟨[], [], [some ⟨1, [], 0, 0⟩, some ⟨1, q.1.map dvL, q.2, 0⟩]⟩⟩)
   (fun i q => listsM B (m + 1) k = q.1 ++ listsM B (m + 1) (k - i)) 0 ([], 0) (Nat.zero_le _) (by simp) rfl (fun i q g1 hix => ?_) (fun q hix => ?_)
  ·obtain ⟨acc, ver⟩ := q
   simp only at hix
   have g2 : (B : Int) - k + i < B := by omega
   obtain ⟨k', hk'⟩ : ∃ k', k - i = k' + 1 := ⟨k - i - 1, by omega⟩
   have en : (B : Int) - k + i = B - (k' + 1 : Nat) := by omega
   have e1 : IntKind.i64.wrap ((B : Int) - k + i + 1) = (B : Int) - k' := by rw [w64_in (by omega)]; omega
   have e2 : IntKind.i64.wrap ((B : Int) - k + i + 1) = (B : Int) - k + ((i + 1 : Nat) : Int) := by rw [w64_in (by omega)]; omega
   rw [hk', listsM, ← en] at hix
   simp only [g2, e1, em, RN, qA, qB, qC, qD, qE, qF]
   refine call_d rfl rfl (ih k' (by omega) (by omega)) ?_
   simp only [RN, qA, qB, qC, qD, qE, qF]
   have hl : (listsM B m k').length ≤ 1024 := Nat.le_trans (listsM_len _ _ _) (Nat.le_trans (Nat.pow_le_pow_right (by decide) (show k' ≤ 10 by omega)) (by decide))
   have hal : acc.length ≤ 1024 := by
    have h1 := listsM_len (B : Int) (m + 1) k
    have h2 : 2 ^ k ≤ 1024 := Nat.le_trans (Nat.pow_le_pow_right (by decide) (show k ≤ 10 by omega)) (by decide)
    rw [hix] at h1
    simp only [List.length_append] at h1
    omega
   generalize hn : (B : Int) - k + i = n at *
   have hxl : ∀ x ∈ listsM B m k', x.length = m := fun x hx => lists_mlen hx
   generalize listsM B m k' = L at *
   refine pwp_range L.length (fun j (q : List (List Int) × Nat) => ⟨[(1, .d (.int .i64 B)), (2, .d (.int .i64 ((m + 1 : Nat) : Int))), (7, .tsl 1 q.2 0), (8, .d (.int .i64 n)), (9, .d (.slice false (L.map dvL))), (10, .d (.int .i64 j))], ⟨[], [], [some ⟨1, [], 0, 0⟩, some ⟨1, q.1.map dvL, q.2, 0⟩]⟩⟩)
    (fun j q => q.1 = acc ++ (L.take j).map (List.cons n)) 0 (acc, ver) (Nat.zero_le _) rfl (by simp) (fun j q f1 hjx => ?_) (fun q hjx => ?_)
   ·obtain ⟨acc', ver'⟩ := q
    simp only at hjx
    obtain ⟨f2, f3, f6⟩ := rng f1 (by omega)
    have hal' : acc'.length ≤ 2048 := by
     rw [hjx, List.length_append, List.length_map]
     have := List.length_take_le j L
     omega
    have ht : L.take (j + 1) = L.take j ++ [L.getD j default] := by rw [take_snoc f1]
    have hxj := hxl _ (getD_mem f1)
    simp only [f2, f3, f1, getD_map, dv_L, Int.toNat_natCast, List.length_map, ev_mkSl1, fits_int, forall_eq, DV.strip, dcells_int, dcells_slice, RN, qA, qB, qC, qD, qE, qF]
    generalize L.getD j default = x at *
    refine ⟨ints_fit x, by simp, by omega, ?_⟩
    rw [ev_mkSl1t rfl]
    simp only [List.length_map, RN, qA, qB, qC, qD, qE, qF]
    refine ⟨fun y hy => by rw [hy]; rfl, by simp, by omega, ?_⟩
    simp only [f6, RN, qA, qB, qC, qD, qE, qF]
    refine up_take 0 2 (acc' ++ [n :: x], ver' + 1) f1 ?_ ?_ (by simp) (by simp) rfl rfl
    ·simp only [List.map_append, List.map_cons, List.map_nil, dv_L, dv_int]; rfl
    ·simp only [hjx, ht, List.map_append, List.map_cons, List.map_nil, List.append_assoc]
   ·obtain ⟨acc', ver'⟩ := q
    simp only [List.take_length] at hjx
    simp only [Int.lt_irrefl, List.length_map, e2, RN, qA, qB, qC, qD, qE, qF]
    refine up_same (acc', ver') g1 rfl ?_ (by simp) (by simp) rfl rfl
    rw [hix, hjx, List.append_assoc, show k - (i + 1) = k' by omega]
  ·obtain ⟨acc, ver⟩ := q
   simp only [Nat.sub_self, listsM, List.append_nil] at hix
   have g2 : ¬ ((B : Int) - k + k < B) := by omega
   simp only [g2, RN, qA, qB, qC, qD, qE, qF]
   rw [hix]
   simp [datum, row_m, DV.strip]
def Piece.rsuits (p : Piece) (gone : List Int) : Bool := (p.rwithout gone).rfault.isNone
def Piece.rspares (p : Piece) : List Int := (firstS p.rsuits p.ws.length p.ws.length p.ws.length 0).getD ((listsM p.ws.length p.ws.length p.ws.length).getD 0 default)
theorem kept_mem {p : Piece} {gone : List Int} {k : Nat} (hk : k ≤ p.ws.length) : ∀ w ∈ p.kept gone k, w ∈ p.ws := by
 intro w hw
 obtain ⟨i, hi, rfl⟩ := List.mem_map.1 hw
 have := List.mem_range.1 (List.mem_filter.1 hi).1
 exact getD_mem (by omega)
theorem without_good {p : Piece} (hg : p.good) (gone : List Int) : (p.rwithout gone).good := {
 cs := hg.cs
 ws := fun w hw => hg.ws w (kept_mem (Nat.le_refl _) w hw)
 w := hg.w
 h := hg.h
 pl := hg.pl
 ga := hg.ga
 po := hg.po
 lw := by
  have h1 : (p.kept gone p.ws.length).length ≤ p.ws.length := by rw [Piece.kept, List.length_map]; exact left_len _ _
  have h2 := hg.lw
  show (p.kept gone p.ws.length).length ≤ 1000
  omega }
set_option maxRecDepth 10000 in
set_option maxHeartbeats 2000000 in
theorem rSpares_c (p : Piece) (hok : p.ok = true) : Pure C F.ref_Spares [p.dv] (.d (.slice false (p.rspares.map intDV))) [] := by
 have hlen := Piece.ok_lens hok
 have hg := Piece.ok_good hok
 have hms := ok_mss hok
 have hwo := fun gone (h : gone.length ≤ 1000) => rWithout_c p gone h (by omega) (by omega) (fun m hm => by have := hms m hm; omega)
 have hfa := fun gone => rFault_c (p.rwithout gone) (without_good hg gone) (by
  have := List.length_filterMap_le (newM gone) p.ms
  show (p.ms.filterMap (newM gone)).length ≤ 1000
  omega)
 have hli := fun m (hm : m ≤ 20) => rLists_c p.ws.length (by omega) m p.ws.length hm (Nat.le_refl _)
 have hz : (p.ws.length : Int) - (p.ws.length : Int) = 0 := by omega
 simp only [hz] at hli
 rw [dv_Piece] at hwo
 have hkk : ∀ x ∈ listsM p.ws.length p.ws.length p.ws.length, x.length ≤ 1000 := fun x hx => by rw [lists_mlen hx]; omega
 refine pure_of_pwp_fs mixed rfl ok_ref_Spares ?_
 simp only [pc_ref_Spares, rs_ref_Spares, dv_Piece, List.not_mem_nil, RN, qA, qB, qC, qD, qE, qF]
 refine pwp_range p.ws.length (fun i (_ : Unit) => ⟨[(1, .d (.cptr p.cells)), (3, .d (.int .i64 i))], ⟨[some (p.cells.map .d)], [0], []⟩⟩)
  (fun i _ => p.rspares = (firstS p.rsuits p.ws.length p.ws.length (p.ws.length - i) i).getD ((listsM p.ws.length p.ws.length p.ws.length).getD 0 default)) 0 () (Nat.zero_le _) rfl rfl (fun i _ g1 hix => ?_) (fun _ hix => ?_)
 ·obtain ⟨g2, g3, g6⟩ := rng g1 (by omega)
  rw [show p.ws.length - i = (p.ws.length - (i + 1)) + 1 by omega, firstS] at hix
  simp only [Piece.cells, g2, List.length_map, RN, qA, qB, qC, qD, qE, qF]
  refine call_d rfl rfl (hli i (by omega)) ?_
  simp only [RN, qA, qB, qC, qD, qE, qF]
  have hl : (listsM p.ws.length i p.ws.length).length ≤ 1024 := Nat.le_trans (listsM_len _ _ _) (Nat.le_trans (Nat.pow_le_pow_right (by decide) (show p.ws.length ≤ 10 by omega)) (by decide))
  have hxl : ∀ x ∈ listsM p.ws.length i p.ws.length, x.length ≤ 1000 := fun x hx => by rw [lists_mlen hx]; omega
  generalize listsM p.ws.length i p.ws.length = L at *
  refine pwp_range L.length (fun j (_ : Unit) => ⟨[(1, .d (.cptr p.cells)), (3, .d (.int .i64 i)), (4, .d (.slice false (L.map dvL))), (5, .d (.int .i64 j))], ⟨[some (p.cells.map .d)], [0], []⟩⟩)
   (fun j _ => L.find? p.rsuits = (L.drop j).find? p.rsuits) 0 () (Nat.zero_le _) rfl rfl (fun j _ f1 hjx => ?_) (fun _ hjx => ?_)
  ·obtain ⟨f2, f3, f6⟩ := rng f1 (by omega)
   have hxj := hxl _ (getD_mem f1)
   rw [drop_cons f1, List.find?_cons] at hjx
   simp only [f2, f3, f1, Piece.cells, getD_map, dv_L, Int.toNat_natCast, List.length_map, dcells_slice, RN, qA, qB, qC, qD, qE, qF]
   generalize hxe : L.getD j default = x at *
   refine call_d rfl rfl (hwo x hxj) ?_
   refine call_d rfl (strip_P _) (hfa x) ?_
   have hsu : p.rsuits x = (p.rwithout x).rfault.isNone := rfl
   cases hx : (p.rwithout x).rfault with
   | none =>
    rw [hx] at hsu
    have hsu' : p.rsuits x = true := hsu
    simp only [hsu'] at hjx
    rw [hjx] at hix
    have e0 : ((0 : Int) == 0) = true := rfl
    have d0 : ((none : Option Flt).getD default).dv = .agg [.int .i64 0, .int .i64 0, .int .i64 0] := rfl
    simp only [d0, e0, f3, f1, getD_map, hxe, dv_L, Int.toNat_natCast, List.length_map, dcells_slice, RN, qA, qB, qC, qD, qE, qF]
    have hr : p.rspares = x := hix
    exact ⟨_, rfl, by rw [hr]; rfl⟩
   | some f =>
    rw [hx] at hsu
    have hsu' : p.rsuits x = false := hsu
    simp only [hsu'] at hjx
    have hk := rfault_kind hx
    have k1 : (f.kind == 0) = false := beq_eq_false_iff_ne.2 hk
    simp only [Option.getD_some, dv_Flt, k1, f6, RN, qA, qB, qC, qD, qE, qF]
    exact up_same () f1 rfl hjx (by simp) (by simp) rfl rfl
  ·rw [List.drop_length, List.find?_nil] at hjx
   rw [hjx] at hix
   simp only [Piece.cells, Int.lt_irrefl, List.length_map, g6, RN, qA, qB, qC, qD, qE, qF]
   exact up_same () g1 rfl hix (by simp) (by simp) rfl rfl
 ·rw [Nat.sub_self, firstS] at hix
  simp only [Piece.cells, Int.lt_irrefl, List.length_map, RN, qA, qB, qC, qD, qE, qF]
  refine call_d rfl rfl (hli p.ws.length (by omega)) ?_
  obtain ⟨x, hx⟩ := listsM_full (p.ws.length : Int) p.ws.length
  rw [hx] at hix ⊢
  have z0 : (0 : Int) ≤ 0 := by decide
  have l1 : 0 < ([x] : List (List Int)).length := Nat.zero_lt_one
  have e1 : ([x] : List (List Int)).getD 0 default = x := rfl
  simp only [z0, Int.toNat_zero, dv_L, dcells_slice, Nat.zero_lt_one, RN, qA, qB, qC, qD, qE, qF]
  have hr : p.rspares = x := hix
  exact ⟨_, rfl, by rw [hr]; rfl⟩
end Go.Tel
namespace Go.Tel
open Go.Am
theorem left_get {gone : List Int} {k : Nat} (hk : gone.contains (k : Int) = false) : ∀ {n : Nat}, k < n → (left gone n)[(left gone k).length]? = some k
 | 0, h => by omega
 | n + 1, h => by
  rw [left_succ]
  by_cases e : k = n
  ·subst e
   rw [hk, List.getElem?_append_right (Nat.le_refl _), Nat.sub_self]; rfl
  ·have ih := left_get hk (n := n) (by omega)
   rw [List.getElem?_append_left (List.getElem?_eq_some_iff.1 ih).1]
   exact ih
theorem left_inv {gone : List Int} {i k : Nat} : ∀ {n : Nat}, (left gone n)[i]? = some k → k < n ∧ gone.contains (k : Int) = false ∧ (left gone k).length = i
 | 0, h => by simp [left] at h
 | n + 1, h => by
  rw [left_succ] at h
  by_cases hi : i < (left gone n).length
  ·rw [List.getElem?_append_left hi] at h
   obtain ⟨h1, h2⟩ := left_inv h
   exact ⟨by omega, h2⟩
  ·rw [List.getElem?_append_right (by omega)] at h
   cases hc : gone.contains (n : Int)
   ·rw [hc] at h
    have h' : ([n] : List Nat)[i - (left gone n).length]? = some k := h
    have hz : i - (left gone n).length = 0 := by
     have := (List.getElem?_eq_some_iff.1 h').1
     simp only [List.length_cons, List.length_nil] at this; omega
    rw [hz] at h'
    simp only [List.getElem?_cons_zero, Option.some.injEq] at h'
    subst h'
    exact ⟨by omega, hc, by omega⟩
   ·rw [hc] at h
    simp at h
theorem pos_le {gone : List Int} {a : Nat} : ∀ {b : Nat}, a ≤ b → (left gone a).length ≤ (left gone b).length
 | 0, h => by rw [show a = 0 by omega]; exact Nat.le_refl _
 | b + 1, h => by
  by_cases e : a = b + 1
  ·rw [e]; exact Nat.le_refl _
  ·rw [left_succ, List.length_append]
   have := pos_le (gone := gone) (a := a) (b := b) (by omega)
   omega
theorem pos_lt {gone : List Int} {a b : Nat} (hk : gone.contains (a : Int) = false) (h : a < b) : (left gone a).length < (left gone b).length := by
 have h1 := pos_le (gone := gone) (a := a + 1) (b := b) h
 rw [left_succ, hk, List.length_append] at h1
 simp only [Bool.false_eq_true, if_false, List.length_cons, List.length_nil] at h1
 omega
theorem pos_inj {gone : List Int} {a b : Nat} (ha : gone.contains (a : Int) = false) (hb : gone.contains (b : Int) = false) (h : (left gone a).length = (left gone b).length) : a = b := by
 rcases Nat.lt_trichotomy a b with h1 | h1 | h1
 ·have := pos_lt ha h1; omega
 ·exact h1
 ·have := pos_lt hb h1; omega
theorem mem_pairs {n : Nat} {gone : List Int} {a b : Nat} : (a, b) ∈ pairsL n gone ↔ a ≤ b ∧ b < n ∧ gone.contains (a : Int) = false ∧ gone.contains (b : Int) = false := by
 rw [pairsL, List.mem_flatMap]
 constructor
 ·rintro ⟨a', ha', h⟩
  obtain ⟨b', hb', h⟩ := List.mem_filterMap.1 h
  split at h
  ·cases h
  ·rename_i hc
   cases h
   have := mem_drop_range.1 hb'
   simp only [Bool.or_eq_true, not_or, Bool.not_eq_true] at hc
   exact ⟨this.1, this.2, hc.1, hc.2⟩
 ·rintro ⟨h1, h2, h3, h4⟩
  refine ⟨a, List.mem_range.2 (by omega), List.mem_filterMap.2 ⟨b, mem_drop_range.2 ⟨h1, h2⟩, ?_⟩⟩
  rw [h3, h4]; rfl
section
variable {p : Piece} {gone : List Int}
theorem q_wh {a : Nat} (ha : gone.contains (a : Int) = false) (hn : a < p.ws.length) : (p.rwithout gone).wh ((left gone a).length : Nat) = p.wh a := by
 simp only [Piece.wh, Piece.rwithout, Piece.kept, Int.toNat_natCast]
 rw [List.getD_eq_getElem?_getD, List.getElem?_map, left_get ha hn]
 rfl
theorem q_pt {a : Nat} (ha : gone.contains (a : Int) = false) (hn : a < p.ws.length) : (p.rwithout gone).pt ((left gone a).length : Nat) = p.pt a := by
 rw [Piece.pt, Piece.pt, q_wh ha hn]; rfl
theorem q_one (hms : ∀ m ∈ p.ms, 0 ≤ m.a ∧ m.a < m.b ∧ m.b ≤ p.ws.length - 1) {a b : Nat} (ha : gone.contains (a : Int) = false) (hb : gone.contains (b : Int) = false) :
  (∃ m ∈ (p.rwithout gone).ms, m.a = ((left gone a).length : Int) ∧ m.b = ((left gone b).length : Int)) ↔ ∃ m ∈ p.ms, m.a = (a : Int) ∧ m.b = (b : Int) := by
 have hnum : ∀ k : Nat, numOf gone k ≥ 0 → gone.contains (k : Int) = false ∧ numOf gone k = ((left gone k).length : Int) := by
  intro k hk
  rw [numOf] at hk ⊢
  cases hc : gone.contains (k : Int)
  ·exact ⟨rfl, by rw [if_neg (by decide)]⟩
  ·rw [hc, if_pos rfl] at hk; omega
 constructor
 ·rintro ⟨m', hm', e1, e2⟩
  obtain ⟨m, hm, hnew⟩ := List.mem_filterMap.1 (show m' ∈ p.ms.filterMap (newM gone) from hm')
  obtain ⟨h1, h2, h3⟩ := hms m hm
  rw [newM] at hnew
  split at hnew
  ·rename_i hc
   rw [Bool.and_eq_true, decide_eq_true_eq, decide_eq_true_eq] at hc
   cases hnew
   obtain ⟨x1, x2⟩ := hnum _ hc.1
   obtain ⟨y1, y2⟩ := hnum _ hc.2
   simp only at e1 e2
   rw [x2] at e1
   rw [y2] at e2
   have i1 := pos_inj x1 ha (by omega)
   have i2 := pos_inj y1 hb (by omega)
   exact ⟨m, hm, by omega, by omega⟩
  ·cases hnew
 ·rintro ⟨m, hm, e1, e2⟩
  have na : numOf gone a = ((left gone a).length : Int) := by rw [numOf, ha, if_neg (by decide)]
  have nb : numOf gone b = ((left gone b).length : Int) := by rw [numOf, hb, if_neg (by decide)]
  refine ⟨⟨(left gone a).length, (left gone b).length⟩, List.mem_filterMap.2 ⟨m, hm, ?_⟩, rfl, rfl⟩
  rw [newM, e1, e2, Int.toNat_natCast, Int.toNat_natCast, na, nb, if_pos]
  rw [Bool.and_eq_true, decide_eq_true_eq, decide_eq_true_eq]; omega
theorem q_meshed (hms : ∀ m ∈ p.ms, 0 ≤ m.a ∧ m.a < m.b ∧ m.b ≤ p.ws.length - 1) {a b : Nat} (ha : gone.contains (a : Int) = false) (hb : gone.contains (b : Int) = false) :
  (p.rwithout gone).rmeshed ((left gone a).length : Nat) ((left gone b).length : Nat) = p.rmeshed a b := by
 have e : ∀ (q : Piece) (x y : Int), q.rmeshed x y = true ↔ (∃ m ∈ q.ms, m.a = x ∧ m.b = y) ∨ ∃ m ∈ q.ms, m.a = y ∧ m.b = x := by
  intro q x y
  rw [Piece.rmeshed, List.any_eq_true]
  simp only [Bool.or_eq_true, Bool.and_eq_true, beq_iff_eq]
  constructor
  ·rintro ⟨m, hm, h | h⟩
   ·exact .inl ⟨m, hm, h⟩
   ·exact .inr ⟨m, hm, h⟩
  ·rintro (⟨m, hm, h⟩ | ⟨m, hm, h⟩)
   ·exact ⟨m, hm, .inl h⟩
   ·exact ⟨m, hm, .inr h⟩
 rw [Bool.eq_iff_iff, e, e, q_one hms ha hb, q_one hms hb ha]
theorem bounds_gone (o : Int) : ∀ (ws : List Wh) (i : Nat) (r : Int × Int), p.ws.drop i = ws → p.bounds gone o i ws r = rfold (p.wh o) ((((List.range p.ws.length).drop i).filter fun (k : Nat) => !gone.contains (k : Int)).map fun (k : Nat) => p.ws.getD k default) r
 | [], i, r, h => by
  have hi : p.ws.length ≤ i := by
   have := congrArg List.length h
   rw [List.length_drop, List.length_nil] at this; omega
  rw [List.drop_eq_nil_of_le (by simpa using hi)]; rfl
 | w :: ws, i, r, h => by
  have hi : i < p.ws.length := by
   refine Nat.lt_of_not_le fun hh => ?_
   rw [List.drop_of_length_le hh] at h
   cases h
  have h2 := drop_cons hi
  rw [h] at h2
  obtain ⟨hw, ht⟩ := List.cons.inj h2
  have hwi : p.wh (i : Int) = w := by rw [Piece.wh, Int.toNat_natCast, ← hw]
  rw [Piece.bounds, bounds_gone o ws (i + 1) _ ht.symm, drop_cons (l := List.range p.ws.length) (i := i) (by simpa using hi), range_getD hi, List.filter_cons]
  cases hc : gone.contains (i : Int)
  ·rw [Bool.not_false, if_pos rfl, List.map_cons, rfold, ← hw]
   congr 1
   simp only [Piece.sleeved, Piece.centred, hwi, Bool.and_true]
  ·rw [Bool.not_true, Bool.and_false]
   rfl
theorem nested_gone (a b : Int) (hc : p.centred a b = true) (hl : p.level a b = false) : p.nested gone a b =
  ((decide ((p.wh a).sleeve < (p.wh b).sleeve) && decide ((p.wh a).layer > (p.bounds gone b 0 p.ws ((p.wh b).layer, (p.wh b).layer)).1) && decide ((p.wh a).layer < (p.bounds gone b 0 p.ws ((p.wh b).layer, (p.wh b).layer)).2)) ||
  (decide ((p.wh b).sleeve < (p.wh a).sleeve) && decide ((p.wh b).layer > (p.bounds gone a 0 p.ws ((p.wh a).layer, (p.wh a).layer)).1) && decide ((p.wh b).layer < (p.bounds gone a 0 p.ws ((p.wh a).layer, (p.wh a).layer)).2))) := by
 rw [Piece.nested]
 rcases Int.lt_trichotomy (p.wh a).sleeve (p.wh b).sleeve with h | h | h
 ·have hs : p.sleeved a b = false := by rw [Piece.sleeved, hc, Bool.true_and, beq_eq_false_iff_ne]; omega
  have h1 : ¬ (p.wh a).sleeve > (p.wh b).sleeve := by omega
  rw [hc, hs, hl, if_neg (by decide)]
  simp only [if_neg h1]
  rw [Bool.eq_iff_iff]
  simp only [inR, Bool.or_eq_true, Bool.and_eq_true, decide_eq_true_eq]
  omega
 ·have hs : p.sleeved a b = true := by rw [Piece.sleeved, hc, Bool.true_and, beq_iff_eq]; exact h
  rw [hs]
  have h1 : ¬ (p.wh a).sleeve < (p.wh b).sleeve := by omega
  have h2 : ¬ (p.wh b).sleeve < (p.wh a).sleeve := by omega
  simp [h1, h2]
 ·have hs : p.sleeved a b = false := by rw [Piece.sleeved, hc, Bool.true_and, beq_eq_false_iff_ne]; omega
  rw [hc, hs, hl, if_neg (by decide)]
  simp only [if_pos h]
  rw [Bool.eq_iff_iff]
  simp only [inR, Bool.or_eq_true, Bool.and_eq_true, decide_eq_true_eq]
  omega
theorem wrong_gone (hms : ∀ m ∈ p.ms, 0 ≤ m.a ∧ m.a < m.b ∧ m.b ≤ p.ws.length - 1) {a b : Nat} (ha : gone.contains (a : Int) = false) (hb : gone.contains (b : Int) = false) (hna : a < p.ws.length) (hnb : b < p.ws.length) :
  p.wrong gone a b = (p.rwithout gone).rmeets ((left gone a).length : Nat) ((left gone b).length : Nat) := by
 have wa := q_wh ha hna
 have wb := q_wh hb hnb
 have pa := q_pt ha hna
 have pb := q_pt hb hnb
 have hm := q_meshed hms ha hb
 have hmesh : p.mesh a b = p.rmeshed a b := mesh_same (fun m h => (hms m h).2.1) a b
 rw [Piece.wrong, Piece.rmeets]
 by_cases hab : a = b
 ·subst hab
  rw [if_pos rfl, if_pos rfl, Piece.edged, Piece.edged, wa, pa]; rfl
 have hne : ¬ (((left gone a).length : Nat) : Int) = ((left gone b).length : Nat) := fun h => hab (pos_inj ha hb (by omega))
 rw [if_neg (by omega), if_neg hne]
 have hlv : (p.rwithout gone).level ((left gone a).length : Nat) ((left gone b).length : Nat) = p.level a b := by rw [Piece.level, Piece.level, wa, wb]
 have hce : (p.rwithout gone).centred ((left gone a).length : Nat) ((left gone b).length : Nat) = p.centred a b := by rw [Piece.centred, Piece.centred, wa, wb]
 have hfa : (p.rwithout gone).far ((left gone a).length : Nat) ((left gone b).length : Nat) = p.far a b := by rw [Piece.far, Piece.far, pa, pb]
 have hsu : (p.rwithout gone).sum ((left gone a).length : Nat) ((left gone b).length : Nat) = p.sum a b := by rw [Piece.sum, Piece.sum, wa, wb]
 have hpl : (p.rwithout gone).pl = p.pl := rfl
 have hga : (p.rwithout gone).ga = p.ga := rfl
 have hpo : (p.rwithout gone).po = p.po := rfl
 have hfold : ∀ (k : Nat) (r : Int × Int), rfold (p.wh k) (p.rwithout gone).ws r = p.bounds gone k 0 p.ws r := fun k r => by
  rw [bounds_gone (k : Int) p.ws 0 r rfl, List.drop_zero]; rfl
 simp only [Piece.rnear, Piece.rwithin, hm, hlv, hce, hfa, hsu, hpl, hga, hpo, wa, wb, hfold]
 have e1 : p.apart a b = (p.rmeshed a b && (!p.level a b || p.centred a b || decide (p.far a b < p.sum a b * p.sum a b) || decide (p.far a b > (p.sum a b + p.pl) * (p.sum a b + p.pl)))) := by
  rw [Piece.apart, hmesh]; rfl
 have e2 : p.touch a b = (!p.rmeshed a b && p.level a b && !p.centred a b && decide (p.far a b < (p.sum a b + p.ga) * (p.sum a b + p.ga))) := by
  rw [Piece.touch, hmesh]; rfl
 rw [e1, e2]
 split
 ·rfl
 split
 ·rfl
 rw [Piece.same]
 split
 ·rfl
 rename_i hcl
 have e6 : p.posted a b = (!p.centred a b && (decide ((p.wh a).layer ≤ (p.wh b).layer) && decide (p.far a b < ((p.wh a).teeth + p.po) * ((p.wh a).teeth + p.po)) || decide ((p.wh b).layer ≤ (p.wh a).layer) && decide (p.far a b < ((p.wh b).teeth + p.po) * ((p.wh b).teeth + p.po)))) := by
  rw [Piece.posted, Piece.post, Piece.post, far_comm p a b]; rfl
 rw [e6]
 cases hc : p.centred a b
 ·have : p.nested gone a b = false := by simp [Piece.nested, hc]
  rw [this]; rfl
 ·have hl : p.level a b = false := by
   cases hl : p.level a b
   ·rfl
   ·rw [hc, hl] at hcl; exact absurd rfl hcl
  rw [nested_gone a b hc hl, Bool.true_and]
theorem fault_gone (hms : ∀ m ∈ p.ms, 0 ≤ m.a ∧ m.a < m.b ∧ m.b ≤ p.ws.length - 1) : (p.fault gone).isNone = p.rsuits gone := by
 rw [Bool.eq_iff_iff, Piece.rsuits, Option.isNone_iff_eq_none, Option.isNone_iff_eq_none, Piece.fault, Piece.rfault, List.findSome?_eq_none_iff, List.findSome?_eq_none_iff]
 have hql : (p.rwithout gone).ws.length = (left gone p.ws.length).length := by simp [Piece.rwithout, Piece.kept]
 constructor
 ·intro h i hi
  rw [Piece.rfltB, List.findSome?_eq_none_iff]
  intro j hj
  have hi' := List.mem_range.1 hi
  have hj' := mem_drop_range.1 hj
  rw [hql] at hi' hj'
  obtain ⟨a, ha⟩ : ∃ a, (left gone p.ws.length)[i]? = some a := ⟨_, List.getElem?_eq_getElem hi'⟩
  obtain ⟨b, hb⟩ : ∃ b, (left gone p.ws.length)[j]? = some b := ⟨_, List.getElem?_eq_getElem hj'.2⟩
  obtain ⟨a1, a2, a3⟩ := left_inv ha
  obtain ⟨b1, b2, b3⟩ := left_inv hb
  have hab : a ≤ b := by
   refine Nat.le_of_not_lt fun hh => ?_
   have := pos_lt b2 hh
   omega
  have := h (a, b) (mem_pairs.2 ⟨hab, b1, a2, b2⟩)
  simp only [wrong_gone hms a2 b2 a1 b1, a3, b3] at this
  split at this
  ·rename_i hz; rw [if_pos hz]
  ·cases this
 ·rintro h ⟨a, b⟩ hq
  obtain ⟨h1, h2, h3, h4⟩ := mem_pairs.1 hq
  have i1 := (List.getElem?_eq_some_iff.1 (left_get h3 (show a < p.ws.length by omega))).1
  have i2 := (List.getElem?_eq_some_iff.1 (left_get h4 h2)).1
  have := h (left gone a).length (List.mem_range.2 (by rw [hql]; exact i1))
  rw [Piece.rfltB, List.findSome?_eq_none_iff] at this
  have := this (left gone b).length (mem_drop_range.2 ⟨pos_le h1, by rw [hql]; exact i2⟩)
  simp only [wrong_gone hms h3 h4 (show a < p.ws.length by omega) h2]
  split at this
  ·rename_i hz; rw [if_pos hz]
  ·cases this
end
end Go.Tel
open Nat renaming reduceBEq → qA, reduceAdd → qB, reduceSub → qC, reduceEqDiff → qD, reduceLT → qE, reduceLeDiff → qF
namespace Go.Tel
open Go.Am
theorem firstS_add (s : List Int → Bool) (below : Int) (k : Nat) : ∀ f n : Nat, firstS s below k (f + 1) n = (firstS s below k f n).or ((listsM below (n + f) k).find? s)
 | 0, n => by
  rw [firstS, firstS, Nat.add_zero]
  cases (listsM below n k).find? s <;> rfl
 | f + 1, n => by
  rw [firstS, firstS_add s below k f (n + 1), firstS, show n + (f + 1) = n + 1 + f by omega]
  cases (listsM below n k).find? s <;> rfl
theorem full_eq (below : Int) : ∀ k : Nat, listsM below k k = [(List.range k).map fun (i : Nat) => below - k + i]
 | 0 => by rw [listsM]; rfl
 | k + 1 => by
  rw [listsM, full_eq below k, listsM_gt below (Nat.lt_succ_self k), List.append_nil, List.range_succ_eq_map]
  simp only [List.map_cons, List.map_nil, List.map_map]
  congr 2
  ·omega
  ·congr 1
   funext i
   simp only [Function.comp_apply]
   omega
theorem suits_full (p : Piece) : p.rsuits ((List.range p.ws.length).map fun (i : Nat) => (p.ws.length : Int) - (p.ws.length : Nat) + i) = true := by
 have hl : left ((List.range p.ws.length).map fun (i : Nat) => (p.ws.length : Int) - (p.ws.length : Nat) + i) p.ws.length = [] := by
  rw [left, List.filter_eq_nil_iff]
  intro i hi
  rw [Bool.not_eq_true', Bool.not_eq_false, List.contains_iff_mem, List.mem_map]
  exact ⟨i, hi, by omega⟩
 rw [Piece.rsuits, Piece.rfault]
 have hw : (p.rwithout ((List.range p.ws.length).map fun (i : Nat) => (p.ws.length : Int) - (p.ws.length : Nat) + i)).ws = [] := by
  show Piece.kept _ _ _ = []
  rw [Piece.kept, hl]; rfl
 rw [hw]; rfl
theorem spares_law {p : Piece} (hok : p.ok = true) : p.spares = (some p.rspares, 0) := by
 have hs : (fun gone => (p.fault gone).isNone) = p.rsuits := funext fun gone => fault_gone (ok_mss hok)
 rw [Piece.spares, if_pos hok, hs, best_lists p.rsuits p.ws.length p.ws.length (p.ws.length + 1) (Nat.lt_succ_self _), firstS_add, Piece.rspares, Nat.zero_add, full_eq]
 have hf := suits_full p
 cases firstS p.rsuits p.ws.length p.ws.length p.ws.length 0 with
 | some x => rfl
 | none =>
  rw [List.find?_cons, hf]; rfl
theorem rspares_len (p : Piece) : p.rspares.length ≤ p.ws.length := by
 have h0 : ∀ f n x, firstS p.rsuits p.ws.length p.ws.length f n = some x → x.length ≤ p.ws.length := by
  intro f
  induction f with
  | zero => intro n x h; cases h
  | succ f ih =>
   intro n x h
   rw [firstS] at h
   cases hx : (listsM p.ws.length n p.ws.length).find? p.rsuits with
   | some y =>
    rw [hx] at h
    cases h
    have hm := List.mem_of_find?_eq_some hx
    rw [listsM_all] at hm
    exact allS_len (List.mem_filter.1 hm).1
   | none =>
    rw [hx] at h
    exact ih _ _ h
 rw [Piece.rspares]
 cases hf : firstS p.rsuits p.ws.length p.ws.length p.ws.length 0 with
 | some x => exact h0 _ _ _ hf
 | none => rw [full_eq]; simp
set_option maxRecDepth 10000 in
set_option maxHeartbeats 2000000 in
theorem PlateSpares_c (hkn : KnownC) (p : Piece) : Pure Go.Tel.C F.law_PlateSpares [p.dv] (.d (.bool true)) [] := by
 have hkn : Pure C F.law_known [] (.d (.bool true)) [] := hkn
 have yn : (((0 : Nat) : Int) == 0) = true := rfl
 have y0 : ((0 : Int) == 0) = true := rfl
 have y2 : ((2 : Int) == 2) = true := rfl
 have hsh := short_c p
 rw [dv_Piece] at hsh
 refine pure_of_pwp_d mixed rfl ok_law_PlateSpares ?_
 simp only [pc_law_PlateSpares, rs_law_PlateSpares, dv_Piece, List.not_mem_nil, RN, qA, qB, qC, qD, qE, qF]
 refine call_d rfl rfl hsh ?_
 cases hs : p.short
 ·simp only [RN, qA, qB, qC, qD, qE, qF]
  refine call_d rfl rfl hkn ?_
  simp only [RN, qA, qB, qC, qD, qE, qF]
 simp only [Piece.short, Bool.and_eq_true, decide_eq_true_eq] at hs
 obtain ⟨⟨s1, s2⟩, s3⟩ := hs
 have h1 := Spares_c lay_c fault_c p (by omega) (by omega) (by omega)
 have h2 := rPiece_c p (by omega) (by omega) (by omega)
 rw [dv_Piece] at h1 h2
 simp only [RN, qA, qB, qC, qD, qE, qF]
 refine call_d rfl rfl h1 ?_
 cases hok : p.ok
 ·have e : p.spares = (none, 2) := by rw [Piece.spares, hok]; rfl
  rw [hok] at h2
  simp only [e, bestD_n, RN, qA, qB, qC, qD, qE, qF]
  refine call_d rfl rfl h2 ?_
  simp only [y2, yn, y0, RN, qA, qB, qC, qD, qE, qF]
  refine call_d rfl rfl hkn ?_
  simp only [RN, qA, qB, qC, qD, qE, qF]
 ·rw [hok] at h2
  have h3 := rSpares_c p hok
  rw [dv_Piece] at h3
  have hl := rspares_len p
  have e1 : decide (p.rspares = p.rspares) = true := decide_eq_true rfl
  simp only [spares_law hok, bestD_s, RN, qA, qB, qC, qD, qE, qF]
  refine call_d rfl rfl h2 ?_
  simp only [y0, RN, qA, qB, qC, qD, qE, qF]
  refine call_d rfl rfl h3 ?_
  refine call_d rfl rfl (Same_c _ _ (by omega)) ?_
  rw [e1]
  simp only [RN, qA, qB, qC, qD, qE, qF]
  refine call_d rfl rfl hkn ?_
  simp only [RN, qA, qB, qC, qD, qE, qF]
end Go.Tel
