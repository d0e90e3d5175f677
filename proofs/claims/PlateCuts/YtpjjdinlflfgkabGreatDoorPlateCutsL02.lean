/-
  Part 2 of the proof of a law of plates, the law itself: an abstract machine over the model, contracts of functions, plain laws.
  Conditions: none.
-/
import Derived.Test.YtpjjdinlflfgkabGreatDoorPlateCutsL01
set_option linter.all false
namespace Go.Tel
end Go.Tel
open Nat renaming reduceBEq → qA, reduceAdd → qB, reduceSub → qC, reduceEqDiff → qD, reduceLT → qE, reduceLeDiff → qF
namespace Go.Tel
open Go.Am
end Go.Tel
open Nat renaming reduceBEq → qA, reduceAdd → qB, reduceSub → qC, reduceEqDiff → qD, reduceLT → qE, reduceLeDiff → qF
namespace Go.Tel
open Go.Am
end Go.Tel
namespace Go.Tel
open Go.Am
end Go.Tel
open Nat renaming reduceBEq → qA, reduceAdd → qB, reduceSub → qC, reduceEqDiff → qD, reduceLT → qE, reduceLeDiff → qF
namespace Go.Tel
open Go.Am
end Go.Tel
open Nat renaming reduceBEq → qA, reduceAdd → qB, reduceSub → qC, reduceEqDiff → qD, reduceLT → qE, reduceLeDiff → qF
namespace Go.Tel
open Go.Am
end Go.Tel
open Nat renaming reduceBEq → qA, reduceAdd → qB, reduceSub → qC, reduceEqDiff → qD, reduceLT → qE, reduceLeDiff → qF
namespace Go.Am
end Go.Am
namespace Go.Tel
open Go.Am
structure WoS where
 ver : Nat
 c : PV
 ar : List (Option Arr)
end Go.Tel
namespace Go.Tel
open Go.Am
def allR (below : Int) : Nat → List (List Int)
 | 0 => []
 | k + 1 => ([] :: allR below k).map (List.cons (below - (k + 1 : Nat))) ++ allR below k
def allS (below : Int) (k : Nat) : List (List Int) := [] :: allR below k
def listsM (below : Int) : Nat → Nat → List (List Int)
 | 0, _ => [[]]
 | _ + 1, 0 => []
 | m + 1, k + 1 => (listsM below m k).map (List.cons (below - (k + 1 : Nat))) ++ listsM below (m + 1) k
theorem someR_lex (s : List Int → Bool) (below : Int) : ∀ (k : Nat) (now : List Int), someR s below k now = ((allR below k).map (now ++ ·)).filter s
 | 0, now => rfl
 | k + 1, now => by
  rw [someR, someR_lex s below k, someR_lex s below k, allR]
  simp only [List.map_append, List.map_cons, List.map_map, List.filter_append, List.filter_cons]
  congr 1
  have e : (fun x : List Int => now ++ [below - (k + 1 : Nat)] ++ x) = (fun x => now ++ x) ∘ List.cons (below - (k + 1 : Nat)) := by
   funext x; simp
  rw [e]
  split <;> simp
theorem someS_lex (s : List Int → Bool) (below : Int) (k : Nat) : someS s below k [] = (allS below k).filter s := by
 rw [someS, someR_lex, allS, List.filter_cons]
 simp only [List.nil_append, List.map_id']
 split <;> simp
theorem allR_ne (below : Int) : ∀ (k : Nat) (x : List Int), x ∈ allR below k → ∃ v l, x = v :: l ∧ below - k ≤ v
 | 0, x, h => by cases h
 | k + 1, x, h => by
  rw [allR, List.mem_append] at h
  rcases h with h | h
  ·obtain ⟨y, _, rfl⟩ := List.mem_map.1 h
   exact ⟨_, _, rfl, by omega⟩
  ·obtain ⟨v, l, rfl, hv⟩ := allR_ne below k x h
   exact ⟨v, l, rfl, by omega⟩
theorem allR_len (below : Int) : ∀ (k : Nat) (x : List Int), x ∈ allR below k → x.length ≤ k
 | 0, x, h => by cases h
 | k + 1, x, h => by
  rw [allR, List.mem_append] at h
  rcases h with h | h
  ·obtain ⟨y, hy, rfl⟩ := List.mem_map.1 h
   rcases List.mem_cons.1 hy with rfl | hy
   ·simp
   ·have := allR_len below k y hy
    simp only [List.length_cons]; omega
  ·have := allR_len below k x h; omega
theorem allS_len {below : Int} {k : Nat} {x : List Int} (h : x ∈ allS below k) : x.length ≤ k := by
 rcases List.mem_cons.1 h with rfl | h
 ·simp
 ·exact allR_len below k x h
def Ord (x y : List Int) : Prop := x.length = y.length → ¬ cmpL y x < 0
theorem allR_ord (below : Int) : ∀ k : Nat, (allS below k).Pairwise Ord
 | 0 => by simp [allS, allR]
 | k + 1 => by
  have ih := allR_ord below k
  have hR : (allR below k).Pairwise Ord := (List.pairwise_cons.1 ih).2
  rw [allS]
  refine List.pairwise_cons.2 ⟨fun y hy hl => ?_, ?_⟩
  ·obtain ⟨v, l, rfl, _⟩ := allR_ne below _ y hy
   simp at hl
  ·rw [allR, List.pairwise_append]
   refine ⟨?_, hR, fun x hx y hy hl => ?_⟩
   ·rw [List.pairwise_map]
    refine ih.imp fun {x y} h hl => ?_
    have := h (by simpa using hl)
    simpa [cmpL] using this
   ·obtain ⟨z, _, rfl⟩ := List.mem_map.1 hx
    obtain ⟨v, l, rfl, hv⟩ := allR_ne below k y hy
    rw [cmpL, if_neg (by omega), if_pos (by omega)]
    omega
theorem listsM_all (below : Int) : ∀ (m k : Nat), listsM below m k = (allS below k).filter fun x => decide (x.length = m)
 | 0, k => by
  rw [listsM, allS, List.filter_cons, if_pos (by simp)]
  rw [List.filter_eq_nil_iff.2 fun x hx => by obtain ⟨v, l, rfl, _⟩ := allR_ne below k x hx; simp]
 | m + 1, 0 => by simp [listsM, allS, allR]
 | m + 1, k + 1 => by
  rw [listsM, listsM_all below m k, listsM_all below (m + 1) k]
  have e0 : ∀ l : List (List Int), ([] :: l).filter (fun x => decide (x.length = m + 1)) = l.filter (fun x => decide (x.length = m + 1)) := fun l => by rw [List.filter_cons, if_neg (by simp)]
  have e1 : (allS below k).filter (fun x => decide (x.length = m + 1)) = (allR below k).filter (fun x => decide (x.length = m + 1)) := e0 _
  have e2 : (allS below (k + 1)).filter (fun x => decide (x.length = m + 1)) = (allR below (k + 1)).filter (fun x => decide (x.length = m + 1)) := e0 _
  rw [e1, e2, allR, List.filter_append, List.filter_map]
  congr 2
  congr 1
  funext x
  simp
def firstMin (L : List (List Int)) (r : List Int) : Prop := ∃ A B, L = A ++ r :: B ∧ (∀ a ∈ A, r.length < a.length) ∧ ∀ b ∈ B, r.length ≤ b.length
theorem best_min : ∀ (L P : List (List Int)) (y r : List Int), firstMin P y → (P ++ L).Pairwise Ord → bestL shorter L (some y) = some r → firstMin (P ++ L) r
 | [], P, y, r, h, _, hb => by
  simp only [bestL, Option.some.injEq] at hb
  subst hb
  simpa using h
 | x :: L, P, y, r, h, hp, hb => by
  rw [bestL] at hb
  have hp' : (P ++ [x] ++ L).Pairwise Ord := by simpa using hp
  have e : P ++ x :: L = P ++ [x] ++ L := by simp
  rw [e]
  refine best_min L (P ++ [x]) _ r ?_ hp' hb
  obtain ⟨A, B, rfl, hA, hB⟩ := h
  by_cases hs : shorter x y = true
  ·rw [if_pos hs]
   simp only [shorter, Bool.or_eq_true, Bool.and_eq_true, decide_eq_true_eq] at hs
   have hyx : Ord y x := (List.pairwise_append.1 hp).2.2 y (by simp) x List.mem_cons_self
   have hlt : x.length < y.length := by
    rcases hs with hs | ⟨h1, h2⟩
    ·exact hs
    ·exact absurd h2 (hyx h1.symm)
   refine ⟨A ++ y :: B, [], rfl, fun a ha => ?_, fun b hb => by cases hb⟩
   rcases List.mem_append.1 ha with ha | ha
   ·have := hA a ha; omega
   ·rcases List.mem_cons.1 ha with rfl | ha
    ·exact hlt
    ·have := hB a ha; omega
  ·rw [if_neg hs]
   simp only [shorter, Bool.or_eq_true, Bool.and_eq_true, decide_eq_true_eq, not_or] at hs
   refine ⟨A, B ++ [x], by simp, hA, fun b hb => ?_⟩
   rcases List.mem_append.1 hb with hb | hb
   ·exact hB b hb
   ·rw [List.mem_singleton.1 hb]; omega
theorem best_some {better : List Int → List Int → Bool} : ∀ (L : List (List Int)) (y : List Int), ∃ r, bestL better L (some y) = some r
 | [], y => ⟨y, rfl⟩
 | x :: L, y => by rw [bestL]; exact best_some L _
theorem best_first {L : List (List Int)} (hp : L.Pairwise Ord) : (L = [] ∧ bestL shorter L none = none) ∨ ∃ r, bestL shorter L none = some r ∧ firstMin L r := by
 cases L with
 | nil => exact .inl ⟨rfl, rfl⟩
 | cons x L =>
  obtain ⟨r, hr⟩ := best_some (better := shorter) L x
  refine .inr ⟨r, by rw [bestL]; exact hr, ?_⟩
  have := best_min L [x] x r ⟨[], [], rfl, fun a h => (by cases h), fun b h => (by cases h)⟩ (by simpa using hp) hr
  simpa using this
def firstS (s : List Int → Bool) (below : Int) (k : Nat) : Nat → Nat → Option (List Int)
 | 0, _ => none
 | f + 1, n => match (listsM below n k).find? s with | some x => some x | none => firstS s below k f (n + 1)
theorem find_lists (s : List Int → Bool) (below : Int) (n k : Nat) : (listsM below n k).find? s = ((allS below k).filter s).find? fun x => decide (x.length = n) := by
 rw [listsM_all, List.find?_filter, List.find?_filter]
 congr 1
 funext x
 rw [decide_eq_decide]
 constructor <;> (rintro ⟨a, b⟩; exact ⟨b, a⟩)
theorem firstS_none {s : List Int → Bool} {below : Int} {k : Nat} (h : (allS below k).filter s = []) : ∀ f n, firstS s below k f n = none
 | 0, _ => rfl
 | f + 1, n => by rw [firstS, find_lists, h]; exact firstS_none h f (n + 1)
theorem firstS_min {s : List Int → Bool} {below : Int} {k : Nat} {r : List Int} (h : firstMin ((allS below k).filter s) r) : ∀ f n, n ≤ r.length → r.length < n + f → firstS s below k f n = some r
 | 0, n, h1, h2 => by omega
 | f + 1, n, h1, h2 => by
  obtain ⟨A, B, hL, hA, hB⟩ := h
  rw [firstS, find_lists, hL, List.find?_append]
  have hAn : A.find? (fun x => decide (x.length = n)) = none := List.find?_eq_none.2 fun a ha => by have := hA a ha; simp; omega
  rw [hAn, Option.none_or, List.find?_cons]
  by_cases hn : r.length = n
  ·simp only [hn, decide_true]
  ·have hBn : B.find? (fun x => decide (x.length = n)) = none := List.find?_eq_none.2 fun a ha => by have := hB a ha; simp; omega
   simp only [hn, decide_false, hBn]
   exact firstS_min ⟨A, B, hL, hA, hB⟩ f (n + 1) (by omega) (by omega)
theorem best_lists (s : List Int → Bool) (below : Int) (k f : Nat) (hf : k < f) : bestL shorter (someS s below k []) none = firstS s below k f 0 := by
 rw [someS_lex]
 rcases best_first ((allR_ord below k).filter (p := s)) with ⟨h1, h2⟩ | ⟨r, h1, h2⟩
 ·rw [h2, firstS_none h1]
 ·rw [h1]
  have h3 := h2
  obtain ⟨A, B, hL, _⟩ := h3
  have hr : r ∈ allS below k := (List.mem_filter.1 (by rw [hL]; simp : r ∈ (allS below k).filter s)).1
  have := allS_len hr
  exact (firstS_min h2 f 0 (by omega) (by omega)).symm
end Go.Tel
open Nat renaming reduceBEq → qA, reduceAdd → qB, reduceSub → qC, reduceEqDiff → qD, reduceLT → qE, reduceLeDiff → qF
namespace Go.Am
theorem ev_mkSl1t {C : Ctx} {base : Nat} {K : PV → Mem → Prop} {KP : DV → Mem → Prop} {z : DV} {k ver sz st : Nat} {xs : List DV} {bs : List (Option (List PV))} {fz : List Nat} {ar : List (Option Arr)} (h : ar[k]? = some (some ⟨sz, xs, ver, st⟩)) :
  runOp C base (.mkSl 1 [z] [0]) [.tsl k ver 0] ⟨bs, fz, ar⟩ K KP = K (.d (.slice true [.slice false xs])) ⟨bs, fz, ar.set k (some ⟨sz, xs, ver, 2⟩)⟩ := by
 have h1 : datumL ⟨bs, fz, ar⟩ [.tsl k ver 0] = some [.slice false xs] := by
  simp only [datumL, datum_tsl h rfl, List.drop_zero]
 rw [ev_mkSl h1 (xs := [.slice false xs]) rfl, frz_t h]
end Go.Am
namespace Go.Tel
open Go.Am
theorem listsM_len (below : Int) (m k : Nat) : (listsM below m k).length ≤ 2 ^ k := by
 have : ∀ k, (allS below k).length ≤ 2 ^ k := fun k => by
  induction k with
  | zero => simp [allS, allR]
  | succ k ih =>
   have e : (allS below (k + 1)).length = (allS below k).length + (allS below k).length := by
    simp only [allS, allR, List.length_cons, List.length_append, List.length_map]; omega
   rw [e, Nat.pow_succ]; omega
 rw [listsM_all]
 exact Nat.le_trans (List.length_filter_le _ _) (this k)
theorem lists_mlen {below : Int} {m k : Nat} {x : List Int} (h : x ∈ listsM below m k) : x.length = m := by
 rw [listsM_all] at h
 simpa using (List.mem_filter.1 h).2
set_option maxRecDepth 10000 in
set_option maxHeartbeats 2000000 in
theorem rLists_c (B : Nat) (hB : B ≤ 10) : ∀ (m k : Nat), m ≤ 20 → k ≤ B → Pure C F.ref_Lists [.int .i64 ((B : Int) - k), .int .i64 B, .int .i64 m] (.d (.slice false ((listsM B m k).map dvL))) [] := by
 intro m
 induction m with
 | zero =>
  intro k _ hk
  refine pure_of_pwp_fs mixed rfl ok_ref_Lists ?_
  have e : (((0 : Nat) : Int) == 0) = true := rfl
  simp only [pc_ref_Lists, rs_ref_Lists, e, ev_mkSl1, DV.strip, dcells_slice, RN, qA, qB, qC, qD, qE, qF]
  exact ⟨_, rfl, by rw [listsM]; rfl⟩
 | succ m ih =>
  intro k hm hk
  have e : (((m + 1 : Nat) : Int) == 0) = false := beq_eq_false_iff_ne.2 (by omega)
  have em : IntKind.i64.wrap (((m + 1 : Nat) : Int) - 1) = (m : Int) := by rw [w64_in (by omega)]; omega
  refine pure_of_pwp_fs mixed rfl ok_ref_Lists ?_
  simp only [pc_ref_Lists, rs_ref_Lists, e, RN, qA, qB, qC, qD, qE, qF]
  refine pwp_range k (fun i (q : List (List Int) × Nat) => ⟨[(1, .d (.int .i64 B)), (2, .d (.int .i64 ((m + 1 : Nat) : Int))), (7, .tsl 1 q.2 0), (8, .d (.int .i64 ((B : Int) - k + i)))], ⟨[], [], [some ⟨1, [], 0, 0⟩, some ⟨1, q.1.map dvL, q.2, 0⟩]⟩⟩)
   (fun i q => listsM B (m + 1) k = q.1 ++ listsM B (m + 1) (k - i)) 0 ([], 0) (Nat.zero_le _) (by simp) rfl (fun i q g1 hix => ?_) (fun q hix => ?_)
  ·obtain ⟨acc, ver⟩ := q
   simp only at hix
   have g2 : (B : Int) - k + i < B := by omega
   obtain ⟨k', hk'⟩ : ∃ k', k - i = k' + 1 := ⟨k - i - 1, by omega⟩
   have en : (B : Int) - k + i = B - (k' + 1 : Nat) := by omega
   have e1 : IntKind.i64.wrap ((B : Int) - k + i + 1) = (B : Int) - k' := by rw [w64_in (by omega)]; omega
   have e2 : IntKind.i64.wrap ((B : Int) - k + i + 1) = (B : Int) - k + ((i + 1 : Nat) : Int) := by rw [w64_in (by omega)]; omega
   rw [hk', listsM, ← en] at hix
   simp only [g2, e1, em, RN, qA, qB, qC, qD, qE, qF]
   refine call_d rfl rfl (ih k' (by omega) (by omega)) ?_
   simp only [RN, qA, qB, qC, qD, qE, qF]
   have hl : (listsM B m k').length ≤ 1024 := Nat.le_trans (listsM_len _ _ _) (Nat.le_trans (Nat.pow_le_pow_right (by decide) (show k' ≤ 10 by omega)) (by decide))
   have hal : acc.length ≤ 1024 := by
    have h1 := listsM_len (B : Int) (m + 1) k
    have h2 : 2 ^ k ≤ 1024 := Nat.le_trans (Nat.pow_le_pow_right (by decide) (show k ≤ 10 by omega)) (by decide)
    rw [hix] at h1
    simp only [List.length_append] at h1
    omega
   generalize hn : (B : Int) - k + i = n at *
   have hxl : ∀ x ∈ listsM B m k', x.length = m := fun x hx => lists_mlen hx
   generalize listsM B m k' = L at *
   refine pwp_range L.length (fun j (q : List (List Int) × Nat) => ⟨[(1, .d (.int .i64 B)), (2, .d (.int .i64 ((m + 1 : Nat) : Int))), (7, .tsl 1 q.2 0), (8, .d (.int .i64 n)), (9, .d (.slice false (L.map dvL))), (10, .d (.int .i64 j))], ⟨[], [], [some ⟨1, [], 0, 0⟩, some ⟨1, q.1.map dvL, q.2, 0⟩]⟩⟩)
    (fun j q => q.1 = acc ++ (L.take j).map (List.cons n)) 0 (acc, ver) (Nat.zero_le _) rfl (by simp) (fun j q f1 hjx => ?_) (fun q hjx => ?_)
   ·obtain ⟨acc', ver'⟩ := q
    simp only at hjx
    obtain ⟨f2, f3, f6⟩ := rng f1 (by omega)
    have hal' : acc'.length ≤ 2048 := by
     rw [hjx, List.length_append, List.length_map]
     have := List.length_take_le j L
     omega
    have ht : L.take (j + 1) = L.take j ++ [L.getD j default] := by rw [take_snoc f1]
    have hxj := hxl _ (getD_mem f1)
    simp only [f2, f3, f1, getD_map, dv_L, Int.toNat_natCast, List.length_map, ev_mkSl1, fits_int, forall_eq, DV.strip, dcells_int, dcells_slice, RN, qA, qB, qC, qD, qE, qF]
    generalize L.getD j default = x at *
    refine ⟨ints_fit x, by simp, by omega, ?_⟩
    rw [ev_mkSl1t rfl]
    simp only [List.length_map, RN, qA, qB, qC, qD, qE, qF]
    refine ⟨fun y hy => by rw [hy]; rfl, by simp, by omega, ?_⟩
    simp only [f6, RN, qA, qB, qC, qD, qE, qF]
    refine up_take 0 2 (acc' ++ [n :: x], ver' + 1) f1 ?_ ?_ (by simp) (by simp) rfl rfl
    ·simp only [List.map_append, List.map_cons, List.map_nil, dv_L, dv_int]; rfl
    ·simp only [hjx, ht, List.map_append, List.map_cons, List.map_nil, List.append_assoc]
   ·obtain ⟨acc', ver'⟩ := q
    simp only [List.take_length] at hjx
    simp only [Int.lt_irrefl, List.length_map, e2, RN, qA, qB, qC, qD, qE, qF]
    refine up_same (acc', ver') g1 rfl ?_ (by simp) (by simp) rfl rfl
    rw [hix, hjx, List.append_assoc, show k - (i + 1) = k' by omega]
  ·obtain ⟨acc, ver⟩ := q
   simp only [Nat.sub_self, listsM, List.append_nil] at hix
   have g2 : ¬ ((B : Int) - k + k < B) := by omega
   simp only [g2, RN, qA, qB, qC, qD, qE, qF]
   rw [hix]
   simp [datum, row_m, DV.strip]
end Go.Tel
open Nat renaming reduceBEq → qA, reduceAdd → qB, reduceSub → qC, reduceEqDiff → qD, reduceLT → qE, reduceLeDiff → qF
namespace Go.Tel
open Go.Am
set_option maxRecDepth 10000 in
theorem rCount_c (n : Int) : Pure C F.ref_Count [.int .i64 n] (.d (.bool (inR n 1 400))) [] := by
 refine pure_of_pwp_d mixed rfl ok_ref_Count ?_
 simp only [pc_ref_Count, rs_ref_Count, RN, qA, qB, qC, qD, qE, qF]
 refine call_d rfl rfl (rin_c _ _ _) ?_
 simp only [RN, qA, qB, qC, qD, qE, qF]
def countsOk (l : List Int) : Bool := (l.all fun n => inR n 1 400) && inR l.length 1 6
set_option maxRecDepth 10000 in
theorem rCounts_c (l : List Int) (hl : l.length ≤ 1000) : Pure C F.ref_Counts [.slice false (l.map intDV)] (.d (.bool (countsOk l))) [] := by
 refine pure_of_pwp_d mixed rfl ok_ref_Counts ?_
 simp only [pc_ref_Counts, rs_ref_Counts, RN, qA, qB, qC, qD, qE, qF]
 refine pwp_range l.length (fun i (_ : Unit) => ⟨[(0, .d (.slice false (l.map intDV))), (3, .d (.int .i64 i))], ⟨[], [], []⟩⟩)
  (fun i _ => (l.all fun n => inR n 1 400) = ((l.drop i).all fun n => inR n 1 400)) 0 () (Nat.zero_le _) rfl rfl (fun i _ g1 hix => ?_) (fun _ hix => ?_)
 ·obtain ⟨g2, g3, g6⟩ := rng g1 (by omega)
  rw [drop_cons g1, List.all_cons] at hix
  simp only [List.length_map, g2, g3, g1, Int.toNat_natCast, getD_map, dv_int, RN, qA, qB, qC, qD, qE, qF]
  refine call_d rfl rfl (rCount_c _) ?_
  cases h1 : inR (l.getD i default) 1 400
  ·rw [h1, Bool.false_and] at hix
   simp only [RN, qA, qB, qC, qD, qE, qF]
   rw [countsOk, hix]; rfl
  ·rw [h1, Bool.true_and] at hix
   simp only [g6, RN, qA, qB, qC, qD, qE, qF]
   exact up_same () g1 rfl hix (by simp) (by simp) rfl rfl
 ·rw [List.drop_length, List.all_nil] at hix
  simp only [Int.lt_irrefl, List.length_map, RN, qA, qB, qC, qD, qE, qF]
  refine call_d rfl rfl (rin_c _ _ _) ?_
  rw [countsOk, hix]; rfl
set_option maxRecDepth 10000 in
theorem rDivider_c (d : Dvd) (hl : d.cir.length ≤ 1000) : Pure C F.ref_Divider [d.dv] (.d (.bool d.ok)) [] := by
 refine pure_of_pwp_d mixed rfl ok_ref_Divider ?_
 simp only [pc_ref_Divider, rs_ref_Divider, dv_Dvd, RN, qA, qB, qC, qD, qE, qF]
 refine pwp_range d.cir.length (fun i (_ : Unit) => ⟨[(1, .d (.cptr [.int .i64 d.worm, .slice false (d.cir.map intDV)])), (3, .d (.int .i64 i))], ⟨[some [.d (.int .i64 d.worm), .d (.slice false (d.cir.map intDV))]], [0], []⟩⟩)
  (fun i _ => (d.cir.all fun n => inR n 1 120) = ((d.cir.drop i).all fun n => inR n 1 120)) 0 () (Nat.zero_le _) rfl rfl (fun i _ g1 hix => ?_) (fun _ hix => ?_)
 ·obtain ⟨g2, g3, g6⟩ := rng g1 (by omega)
  rw [drop_cons g1, List.all_cons] at hix
  simp only [List.length_map, g2, g3, g1, Int.toNat_natCast, getD_map, dv_int, RN, qA, qB, qC, qD, qE, qF]
  refine call_d rfl rfl (rin_c _ _ _) ?_
  cases h1 : inR (d.cir.getD i default) 1 120
  ·rw [h1, Bool.false_and] at hix
   simp only [RN, qA, qB, qC, qD, qE, qF]
   rw [Dvd.ok, hix, Bool.and_false]
  ·rw [h1, Bool.true_and] at hix
   simp only [g6, RN, qA, qB, qC, qD, qE, qF]
   exact up_same () g1 rfl hix (by simp) (by simp) rfl rfl
 ·rw [List.drop_length, List.all_nil] at hix
  simp only [Int.lt_irrefl, List.length_map, RN, qA, qB, qC, qD, qE, qF]
  refine call_d rfl rfl (rin_c _ _ _) ?_
  cases h1 : inR d.worm 1 60
  ·simp only [RN, qA, qB, qC, qD, qE, qF]
   rw [Dvd.ok, h1]; rfl
  ·simp only [List.length_map, RN, qA, qB, qC, qD, qE, qF]
   refine call_d rfl rfl (rin_c _ _ _) ?_
   rw [Dvd.ok, h1, hix, Bool.and_true]; rfl
theorem Dvd.prod {d : Dvd} (hok : d.ok = true) {i : Nat} (hi : i < d.cir.length) : 1 ≤ d.cir.getD i default ∧ d.cir.getD i default ≤ 120 ∧ 1 ≤ d.worm * d.cir.getD i default ∧ d.worm * d.cir.getD i default ≤ 7200 := by
 obtain ⟨hw, _, hcs⟩ := Dvd.ok_facts hok
 have hc := hcs _ (getD_mem hi)
 have h1 := Int.mul_le_mul hw.2 hc.2 (by omega) (by omega)
 have h2 := Int.mul_le_mul hw.1 hc.1 (by omega) (by omega)
 omega
set_option maxRecDepth 10000 in
theorem rCan_c (d : Dvd) (i : Nat) (t : Int) (hok : d.ok = true) (hi : i < d.cir.length) (ht : 1 ≤ t) : Pure C F.ref_Can [d.dv, .int .i64 i, .int .i64 t] (.d (.bool (canCut d.worm (d.cir.getD i default) t))) [] := by
 obtain ⟨c1, c2, m1, m2⟩ := Dvd.prod hok hi
 have e1 : IntKind.i64.wrap (d.worm * d.cir.getD i default) = d.worm * d.cir.getD i default := w64_in (by omega)
 have hi0 : (0 : Int) ≤ (i : Int) := by omega
 have n1 : t ≠ 0 := by omega
 refine pure_of_pwp_d mixed rfl ok_ref_Can ?_
 simp only [pc_ref_Can, rs_ref_Can, dv_Dvd, hi, hi0, getD_map, Int.toNat_natCast, List.length_map, dv_int, e1, n1, canCut, RN, qA, qB, qC, qD, qE, qF]
def Dvd.first (d : Dvd) (t : Int) : Option Ix := cutGo d.worm t 0 d.cir
def ixOf (o : Option Ix) : Ix := o.getD ⟨0, 0, 0⟩
set_option maxRecDepth 10000 in
theorem rCuts_c (d : Dvd) (t : Int) (hok : d.ok = true) (ht : 1 ≤ t) : Pure C F.ref_Cuts [d.dv, .int .i64 t] (.d (.tup [(ixOf (d.first t)).dv, .bool (d.first t).isSome])) [] := by
 obtain ⟨hw, hcl, hcs⟩ := Dvd.ok_facts hok
 refine pure_of_pwp_d mixed rfl ok_ref_Cuts ?_
 simp only [pc_ref_Cuts, rs_ref_Cuts, dv_Dvd, RN, qA, qB, qC, qD, qE, qF]
 refine pwp_range d.cir.length (fun i (_ : Unit) => ⟨[(1, .d (.int .i64 t)), (2, .d (.cptr [.int .i64 d.worm, .slice false (d.cir.map intDV)])), (4, .ptr 1 0), (6, .d (.int .i64 i))], ⟨[some [.d (.int .i64 d.worm), .d (.slice false (d.cir.map intDV))], some [.d (.int .i64 0), .d (.int .i64 0), .d (.int .i64 0)]], [0], []⟩⟩)
  (fun i _ => d.first t = cutGo d.worm t i (d.cir.drop i)) 0 () (Nat.zero_le _) rfl rfl (fun i _ g1 hix => ?_) (fun _ hix => ?_)
 ·obtain ⟨g2, g3, g6⟩ := rng g1 (by omega)
  rw [drop_cons g1, cutGo] at hix
  have hcan := rCan_c d i t hok g1 ht
  rw [dv_Dvd] at hcan
  obtain ⟨c1, c2, m1, m2⟩ := Dvd.prod hok g1
  have e1 : IntKind.i64.wrap (d.worm * d.cir.getD i default) = d.worm * d.cir.getD i default := w64_in (by omega)
  have b1 : ((d.worm * d.cir.getD i default).tdiv t).natAbs ≤ 7200 := by
   have := tdiv_bd (d.worm * d.cir.getD i default) t
   omega
  have e2 : IntKind.i64.wrap ((d.worm * d.cir.getD i default).tdiv t) = (d.worm * d.cir.getD i default).tdiv t := w64_in (by omega)
  have b2 : (((d.worm * d.cir.getD i default).tdiv t).tdiv (d.cir.getD i default)).natAbs ≤ 7200 := by
   have := tdiv_bd ((d.worm * d.cir.getD i default).tdiv t) (d.cir.getD i default)
   omega
  have e3 : IntKind.i64.wrap (((d.worm * d.cir.getD i default).tdiv t).tdiv (d.cir.getD i default)) = ((d.worm * d.cir.getD i default).tdiv t).tdiv (d.cir.getD i default) := w64_in (by omega)
  have n1 : t ≠ 0 := by omega
  have n2 : d.cir.getD i default ≠ 0 := by omega
  simp only [g2, g3, g1, Int.toNat_natCast, List.length_map, RN, qA, qB, qC, qD, qE, qF]
  refine call_d rfl rfl hcan ?_
  cases hb : canCut d.worm (d.cir.getD i default) t
  ·rw [hb] at hix
   simp only [g6, RN, qA, qB, qC, qD, qE, qF]
   exact up_same () g1 rfl hix (by simp) (by simp) rfl rfl
  ·rw [hb, if_pos rfl] at hix
   simp only [g3, g1, Int.toNat_natCast, List.length_map, getD_map, dv_int, e1, e2, e3, n1, n2, List.not_mem_nil, RN, qA, qB, qC, qD, qE, qF]
   rw [hix, ixOf]
   simp only [Option.getD_some, Option.isSome_some, dv_Ix, cutIx]
 ·rw [List.drop_length, cutGo] at hix
  simp only [Int.lt_irrefl, List.length_map, RN, qA, qB, qC, qD, qE, qF]
  rw [hix]; rfl
def Dvd.numsTo (d : Dvd) (n : Nat) : List Int := ((List.range n).map fun (i : Nat) => (i : Int) + 1).filter fun t => (d.first t).isSome
def Dvd.numbers (d : Dvd) : List Int × Int := if d.ok then (d.numsTo 400, 0) else ([], 2)
theorem numsTo_succ (d : Dvd) (n : Nat) : d.numsTo (n + 1) = d.numsTo n ++ (if (d.first ((n : Int) + 1)).isSome then [(n : Int) + 1] else []) := by
 rw [Dvd.numsTo, List.range_succ, List.map_append, List.filter_append, ← Dvd.numsTo, List.map_cons, List.map_nil, List.filter_cons, List.filter_nil]
theorem numsTo_len (d : Dvd) (n : Nat) : (d.numsTo n).length ≤ n := by
 rw [Dvd.numsTo]
 refine Nat.le_trans (List.length_filter_le _ _) ?_
 simp
set_option maxRecDepth 10000 in
theorem rNumbers_c (d : Dvd) (hok : d.ok = true) : Pure C F.ref_Numbers [d.dv] (.d (.slice false ((d.numsTo 400).map intDV))) [] := by
 refine pure_of_pwp_f mixed rfl ok_ref_Numbers ?_
 simp only [pc_ref_Numbers, rs_ref_Numbers, dv_Dvd, RN, qA, qB, qC, qD, qE, qF]
 refine pwp_range 400 (fun i (q : List Int × Nat) => ⟨[(1, .d (.cptr [.int .i64 d.worm, .slice false (d.cir.map intDV)])), (3, .tsl 1 q.2 0), (4, .d (.int .i64 ((i : Int) + 1)))], ⟨[some [.d (.int .i64 d.worm), .d (.slice false (d.cir.map intDV))]], [0], [some ⟨1, [], 0, 0⟩, some ⟨1, q.1.map intDV, q.2, 0⟩]⟩⟩)
  (fun i q => q.1 = d.numsTo i) 0 ([], 0) (Nat.zero_le _) rfl rfl (fun i q g1 hix => ?_) (fun q hix => ?_)
 ·obtain ⟨acc, ver⟩ := q
  simp only at hix
  have g2 : (i : Int) + 1 ≤ 400 := by omega
  have g6 : IntKind.i64.wrap ((i : Int) + 1 + 1) = ((i + 1 : Nat) : Int) + 1 := by rw [w64_in (by omega)]; omega
  have hcu := rCuts_c d ((i : Int) + 1) hok (by omega)
  rw [dv_Dvd, dv_Ix] at hcu
  have hs := numsTo_succ d i
  have hl := numsTo_len d i
  rw [← hix] at hs hl
  simp only [g2, RN, qA, qB, qC, qD, qE, qF]
  refine call_d rfl rfl hcu ?_
  cases hx : (d.first ((i : Int) + 1)).isSome
  ·rw [hx] at hs
   simp only [g6, RN, qA, qB, qC, qD, qE, qF]
   exact up_take 1 2 (acc, ver) g1 rfl (by simpa using hs.symm) (by simp) (by simp) rfl rfl
  ·rw [hx] at hs
   simp only [ev_mkSl1, fits_int, forall_eq, DV.strip, dcells_int, List.length_map, RN, qA, qB, qC, qD, qE, qF]
   refine ⟨by simp, by omega, ?_⟩
   simp only [g6, RN, qA, qB, qC, qD, qE, qF]
   refine up_take 1 2 (acc ++ [(i : Int) + 1], ver + 1) g1 ?_ (by simpa using hs.symm) (by simp) (by simp) rfl rfl
   simp only [List.map_append, List.map_cons, List.map_nil, dv_int]; rfl
 ·obtain ⟨acc, ver⟩ := q
  simp only at hix
  have g2 : ¬ ((400 : Nat) : Int) + 1 ≤ 400 := by omega
  simp only [g2, RN, qA, qB, qC, qD, qE, qF]
  simp [datum, row_m, hix]
set_option maxRecDepth 10000 in
theorem Numbers_c (d : Dvd) (hl : d.cir.length ≤ 1000) : Pure C F.plate_Numbers [d.dv] (.d (.tup [.slice false (d.numbers.1.map intDV), .int .i64 d.numbers.2])) [] := by
 have hd := isDivider_c d (by omega)
 rw [dv_Dvd] at hd
 refine pure_of_pwp_f mixed rfl ok_plate_Numbers ?_
 simp only [pc_plate_Numbers, rs_plate_Numbers, dv_Dvd, RN, qA, qB, qC, qD, qE, qF]
 refine call_d rfl rfl hd ?_
 cases hok : d.ok
 ·have e : d.numbers = ([], 2) := by rw [Dvd.numbers, hok]; rfl
  simp only [allD_t, Option.map_none, tupO_none, RN, qA, qB, qC, qD, qE, qF]
  simp [datum, datum0L, datum0, row_m, e]
 have e : d.numbers = (d.numsTo 400, 0) := by rw [Dvd.numbers, hok]; rfl
 simp only [RN, qA, qB, qC, qD, qE, qF]
 refine pwp_range 400 (fun i (q : List Int × Nat) => ⟨[(1, .d (.cptr [.int .i64 d.worm, .slice false (d.cir.map intDV)])), (4, .tsl 1 q.2 0), (5, .d (.int .i64 ((i : Int) + 1)))], ⟨[some [.d (.int .i64 d.worm), .d (.slice false (d.cir.map intDV))]], [0], [some ⟨1, [], 0, 0⟩, some ⟨1, q.1.map intDV, q.2, 0⟩]⟩⟩)
  (fun i q => q.1 = d.numsTo i) 0 ([], 0) (Nat.zero_le _) rfl rfl (fun i q g1 hix => ?_) (fun q hix => ?_)
 ·obtain ⟨acc, ver⟩ := q
  simp only at hix
  have g2 : (i : Int) + 1 ≤ 400 := by omega
  have g6 : IntKind.i64.wrap ((i : Int) + 1 + 1) = ((i + 1 : Nat) : Int) + 1 := by rw [w64_in (by omega)]; omega
  have hcu := Cuts_c d ((i : Int) + 1) (by omega)
  rw [dv_Dvd, dv_Ix] at hcu
  have hs := numsTo_succ d i
  have hln := numsTo_len d i
  rw [← hix] at hs hln
  have hin : inR ((i : Int) + 1) 1 400 = true := by simp only [inR, Bool.and_eq_true, decide_eq_true_eq]; omega
  have hc2 : d.cuts ((i : Int) + 1) = (match d.first ((i : Int) + 1) with | some x => (x, 0) | none => (⟨0, 0, 0⟩, 5)) := by rw [Dvd.cuts, hok, hin]; rfl
  have z0 : ((0 : Int) == 0) = true := rfl
  have z5 : ((5 : Int) == 0) = false := rfl
  simp only [g2, RN, qA, qB, qC, qD, qE, qF]
  refine call_d rfl rfl hcu ?_
  cases hx : d.first ((i : Int) + 1) with
  | none =>
   rw [hx] at hs hc2
   simp only [hc2, z5, g6, RN, qA, qB, qC, qD, qE, qF]
   exact up_take 1 2 (acc, ver) g1 rfl (by simpa using hs.symm) (by simp) (by simp) rfl rfl
  | some x =>
   rw [hx] at hs hc2
   simp only [hc2, z0, ev_mkSl1, fits_int, forall_eq, DV.strip, dcells_int, List.length_map, RN, qA, qB, qC, qD, qE, qF]
   refine ⟨by simp, by omega, ?_⟩
   simp only [g6, RN, qA, qB, qC, qD, qE, qF]
   refine up_take 1 2 (acc ++ [(i : Int) + 1], ver + 1) g1 ?_ (by simpa using hs.symm) (by simp) (by simp) rfl rfl
   simp only [List.map_append, List.map_cons, List.map_nil, dv_int]; rfl
 ·obtain ⟨acc, ver⟩ := q
  simp only at hix
  have g2 : ¬ ((400 : Nat) : Int) + 1 ≤ 400 := by omega
  simp only [g2, allD_t, Option.map_none, tupO_none, RN, qA, qB, qC, qD, qE, qF]
  simp [datum, datum0L, datum0, row_m, hix, e]
end Go.Tel
open Nat renaming reduceBEq → qA, reduceAdd → qB, reduceSub → qC, reduceEqDiff → qD, reduceLT → qE, reduceLeDiff → qF
namespace Go.Tel
open Go.Am
theorem listsM_in (B : Int) : ∀ (m k : Nat) (x : List Int), x ∈ listsM B m k → ∀ v ∈ x, B - k ≤ v ∧ v < B
 | 0, k, x, h, v, hv => by
  rw [listsM, List.mem_singleton] at h
  subst h; cases hv
 | m + 1, 0, x, h, v, hv => by rw [listsM] at h; cases h
 | m + 1, k + 1, x, h, v, hv => by
  rw [listsM, List.mem_append] at h
  rcases h with h | h
  ·obtain ⟨y, hy, rfl⟩ := List.mem_map.1 h
   rcases List.mem_cons.1 hv with rfl | hv
   ·omega
   ·have := listsM_in B m k y hy v hv; omega
  ·have := listsM_in B (m + 1) k x h v hv; omega
set_option maxRecDepth 10000 in
set_option maxHeartbeats 1000000 in
theorem rEnough_c (d : Dvd) (counts l : List Int) (hok : d.ok = true) (hc : counts.length ≤ 1000) (hcs : ∀ n ∈ counts, 1 ≤ n) (hl : l.length ≤ 1000) (hls : ∀ i ∈ l, 0 ≤ i ∧ i < (d.cir.length : Int)) :
  Pure C F.ref_Enough [d.dv, .slice false (counts.map intDV), .slice false (l.map intDV)] (.d (.bool (d.allCut counts l))) [] := by
 refine pure_of_pwp_d mixed rfl ok_ref_Enough ?_
 simp only [pc_ref_Enough, rs_ref_Enough, dv_Dvd, RN, qA, qB, qC, qD, qE, qF]
 refine pwp_range counts.length (fun i (_ : Unit) => ⟨[(1, .d (.slice false (counts.map intDV))), (2, .d (.slice false (l.map intDV))), (3, .d (.cptr [.int .i64 d.worm, .slice false (d.cir.map intDV)])), (7, .d (.int .i64 i))], ⟨[some [.d (.int .i64 d.worm), .d (.slice false (d.cir.map intDV))]], [0], []⟩⟩)
  (fun i _ => d.allCut counts l = !((counts.drop i).any fun n => !(l.any fun i => d.can n i))) 0 () (Nat.zero_le _) rfl rfl (fun i _ g1 hix => ?_) (fun _ hix => ?_)
 ·obtain ⟨g2, g3, g6⟩ := rng g1 (by omega)
  rw [drop_cons g1, List.any_cons] at hix
  have hn := hcs _ (getD_mem g1)
  generalize hne : counts.getD i default = n at *
  simp only [List.length_map, g2, RN, qA, qB, qC, qD, qE, qF]
  refine pwp_range l.length (fun j (acc : Bool) => ⟨[(1, .d (.slice false (counts.map intDV))), (2, .d (.slice false (l.map intDV))), (3, .d (.cptr [.int .i64 d.worm, .slice false (d.cir.map intDV)])), (7, .d (.int .i64 i)), (8, .d (.bool acc)), (9, .d (.int .i64 j))], ⟨[some [.d (.int .i64 d.worm), .d (.slice false (d.cir.map intDV))]], [0], []⟩⟩)
   (fun j acc => (l.any fun i => d.can n i) = (acc || (l.drop j).any fun i => d.can n i)) 0 false (Nat.zero_le _) rfl rfl (fun j acc f1 hjx => ?_) (fun acc hjx => ?_)
  ·obtain ⟨f2, f3, f6⟩ := rng f1 (by omega)
   rw [drop_cons f1, List.any_cons] at hjx
   obtain ⟨v1, v2⟩ := hls _ (getD_mem f1)
   obtain ⟨v, hv⟩ := Int.eq_ofNat_of_zero_le v1
   have hvl : v < d.cir.length := by omega
   have hcan := rCan_c d v n hok hvl hn
   have e : d.can n (l.getD j default) = canCut d.worm (d.cir.getD v default) n := by rw [Dvd.can, hv, Int.toNat_natCast]
   rw [dv_Dvd, ← hv] at hcan
   cases acc
   ·rw [Bool.false_or, e] at hjx
    simp only [f2, f3, f1, g3, g1, hne, getD_map, dv_int, Int.toNat_natCast, List.length_map, RN, qA, qB, qC, qD, qE, qF]
    refine call_d rfl rfl hcan ?_
    simp only [f6, RN, qA, qB, qC, qD, qE, qF]
    exact up_same _ f1 rfl hjx (by simp) (by simp) rfl rfl
   ·rw [Bool.true_or] at hjx
    simp only [f2, f6, List.length_map, RN, qA, qB, qC, qD, qE, qF]
    exact up_same true f1 rfl (by rw [hjx]; rfl) (by simp) (by simp) rfl rfl
  ·rw [List.drop_length, List.any_nil, Bool.or_false] at hjx
   rw [hjx] at hix
   cases acc
   ·simp only [Int.lt_irrefl, List.length_map, RN, qA, qB, qC, qD, qE, qF]
    rw [hix]; rfl
   ·simp only [Int.lt_irrefl, List.length_map, g6, RN, qA, qB, qC, qD, qE, qF]
    exact up_same () g1 rfl hix (by simp) (by simp) rfl rfl
 ·rw [List.drop_length, List.any_nil] at hix
  simp only [Int.lt_irrefl, List.length_map, RN, qA, qB, qC, qD, qE, qF]
  rw [hix]; rfl
def Dvd.firstC (d : Dvd) (counts : List Int) : Option (List Int) := firstS (d.allCut counts) d.cir.length d.cir.length (d.cir.length + 1) 0
set_option maxRecDepth 10000 in
set_option maxHeartbeats 1000000 in
theorem rCircles_c (d : Dvd) (counts : List Int) (hok : d.ok = true) (hc : counts.length ≤ 1000) (hcs : ∀ n ∈ counts, 1 ≤ n) :
  Pure C F.ref_Circles [d.dv, .slice false (counts.map intDV)] (.d (.tup [bestD (d.firstC counts), .bool (d.firstC counts).isSome])) [] := by
 obtain ⟨hw, hcl, _⟩ := Dvd.ok_facts hok
 have hli := fun m (hm : m ≤ 20) => rLists_c d.cir.length (by omega) m d.cir.length hm (Nat.le_refl _)
 have hz : (d.cir.length : Int) - (d.cir.length : Int) = 0 := by omega
 simp only [hz] at hli
 refine pure_of_pwp_d mixed rfl ok_ref_Circles ?_
 simp only [pc_ref_Circles, rs_ref_Circles, dv_Dvd, RN, qA, qB, qC, qD, qE, qF]
 refine pwp_range (d.cir.length + 1) (fun i (_ : Unit) => ⟨[(1, .d (.slice false (counts.map intDV))), (2, .d (.cptr [.int .i64 d.worm, .slice false (d.cir.map intDV)])), (6, .d (.int .i64 i))], ⟨[some [.d (.int .i64 d.worm), .d (.slice false (d.cir.map intDV))]], [0], []⟩⟩)
  (fun i _ => d.firstC counts = firstS (d.allCut counts) d.cir.length d.cir.length (d.cir.length + 1 - i) i) 0 () (Nat.zero_le _) rfl rfl (fun i _ g1 hix => ?_) (fun _ hix => ?_)
 ·have g2 : (i : Int) ≤ (d.cir.length : Int) := by omega
  obtain ⟨_, _, g6⟩ := rng g1 (by omega)
  rw [show d.cir.length + 1 - i = (d.cir.length + 1 - (i + 1)) + 1 by omega, firstS] at hix
  simp only [g2, List.length_map, RN, qA, qB, qC, qD, qE, qF]
  refine call_d rfl rfl (hli i (by omega)) ?_
  simp only [RN, qA, qB, qC, qD, qE, qF]
  have hl : (listsM d.cir.length i d.cir.length).length ≤ 1024 := Nat.le_trans (listsM_len _ _ _) (Nat.le_trans (Nat.pow_le_pow_right (by decide) (show d.cir.length ≤ 10 by omega)) (by decide))
  have hxl : ∀ x ∈ listsM d.cir.length i d.cir.length, x.length ≤ 1000 ∧ ∀ v ∈ x, 0 ≤ v ∧ v < (d.cir.length : Int) := fun x hx => ⟨by rw [lists_mlen hx]; omega, fun v hv => by have := listsM_in _ _ _ x hx v hv; omega⟩
  generalize listsM d.cir.length i d.cir.length = L at *
  refine pwp_range L.length (fun j (_ : Unit) => ⟨[(1, .d (.slice false (counts.map intDV))), (2, .d (.cptr [.int .i64 d.worm, .slice false (d.cir.map intDV)])), (6, .d (.int .i64 i)), (7, .d (.slice false (L.map dvL))), (8, .d (.int .i64 j))], ⟨[some [.d (.int .i64 d.worm), .d (.slice false (d.cir.map intDV))]], [0], []⟩⟩)
   (fun j _ => L.find? (d.allCut counts) = (L.drop j).find? (d.allCut counts)) 0 () (Nat.zero_le _) rfl rfl (fun j _ f1 hjx => ?_) (fun _ hjx => ?_)
  ·obtain ⟨f2, f3, f6⟩ := rng f1 (by omega)
   obtain ⟨x1, x2⟩ := hxl _ (getD_mem f1)
   rw [drop_cons f1, List.find?_cons] at hjx
   generalize hxe : L.getD j default = x at *
   have hen := rEnough_c d counts x hok hc hcs x1 x2
   rw [dv_Dvd] at hen
   simp only [f2, f3, f1, getD_map, hxe, dv_L, Int.toNat_natCast, List.length_map, dcells_slice, RN, qA, qB, qC, qD, qE, qF]
   refine call_d rfl rfl hen ?_
   cases hx : d.allCut counts x
   ·rw [hx] at hjx
    simp only [f6, RN, qA, qB, qC, qD, qE, qF]
    exact up_same () f1 rfl hjx (by simp) (by simp) rfl rfl
   ·rw [hx] at hjx
    simp only at hjx
    rw [hjx] at hix
    simp only at hix
    simp only [f3, f1, getD_map, hxe, dv_L, Int.toNat_natCast, List.length_map, dcells_slice, RN, qA, qB, qC, qD, qE, qF]
    rw [hix, bestD_s]; rfl
  ·rw [List.drop_length, List.find?_nil] at hjx
   rw [hjx] at hix
   simp only [Int.lt_irrefl, List.length_map, g6, RN, qA, qB, qC, qD, qE, qF]
   exact up_same () g1 rfl hix (by simp) (by simp) rfl rfl
 ·rw [Nat.sub_self, firstS] at hix
  have g2 : ¬ ((d.cir.length + 1 : Nat) : Int) ≤ (d.cir.length : Int) := by omega
  simp only [g2, List.length_map, RN, qA, qB, qC, qD, qE, qF]
  rw [hix, bestD_n]; rfl
end Go.Tel
open Nat renaming reduceBEq → qA, reduceAdd → qB, reduceSub → qC, reduceEqDiff → qD, reduceLT → qE, reduceLeDiff → qF
namespace Go.Tel
open Go.Am
theorem ev_ixT {C : Ctx} {base : Nat} {M : Mem} {K : PV → Mem → Prop} {KP : DV → Mem → Prop} {a b c : Int} : runOp C base (.binA false [1, 1, 1]) [.d (.agg [.int .i64 a, .int .i64 b, .int .i64 c]), .d (.agg [.int .i64 a, .int .i64 b, .int .i64 c])] M K KP = K (.d (.bool true)) M := by
 rw [ev_binA (t := true) (by simp [cellsEq])]; rfl
theorem ev_ixF {C : Ctx} {base : Nat} {M : Mem} {K : PV → Mem → Prop} {KP : DV → Mem → Prop} {a b c : Int} : runOp C base (.binA true [1, 1, 1]) [.d (.agg [.int .i64 a, .int .i64 b, .int .i64 c]), .d (.agg [.int .i64 a, .int .i64 b, .int .i64 c])] M K KP = K (.d (.bool false)) M := by
 rw [ev_binA (t := true) (by simp [cellsEq])]; rfl
theorem hasV_dvd {x : DV} (h : HasV dvdTy x) : ∃ d : Dvd, x = d.dv := by
 obtain ⟨h, hs⟩ := h
 obtain ⟨cs, rfl⟩ := hs.1 rfl
 obtain ⟨a, _, e1, h1⟩ := has_i h
 obtain ⟨b, _, rfl, h2⟩ := has_s has_in h1
 obtain rfl := has_nil h2
 exact ⟨⟨a, b⟩, by rw [Dvd.dv]; exact congrArg DV.agg e1⟩
theorem firstC_len {d : Dvd} {counts x : List Int} (h : d.firstC counts = some x) : x.length ≤ d.cir.length := by
 have h0 : ∀ f n x, firstS (d.allCut counts) d.cir.length d.cir.length f n = some x → x.length ≤ d.cir.length := by
  intro f
  induction f with
  | zero => intro n x h; cases h
  | succ f ih =>
   intro n x h
   rw [firstS] at h
   cases hx : (listsM d.cir.length n d.cir.length).find? (d.allCut counts) with
   | some y =>
    rw [hx] at h
    cases h
    have hm := List.mem_of_find?_eq_some hx
    rw [listsM_all] at hm
    exact allS_len (List.mem_filter.1 hm).1
   | none =>
    rw [hx] at h
    exact ih _ _ h
 exact h0 _ _ _ h
theorem counts_eq (l : List Int) : countsOk l = (inR l.length 1 6 && !(l.any fun n => !inR n 1 400)) := by
 rw [any_not, Bool.not_not, countsOk, Bool.and_comm]
set_option maxRecDepth 10000 in
set_option maxHeartbeats 4000000 in
theorem PlateCuts_c (hkn : KnownC) (d : Dvd) (t : Int) (counts : List Int) : Pure Go.Tel.C F.law_PlateCuts [d.dv, .int .i64 t, .slice false (counts.map intDV)] (.d (.bool true)) [] := by
 have hkn : Pure C F.law_known [] (.d (.bool true)) [] := hkn
 have yn : (((0 : Nat) : Int) == 0) = true := rfl
 have y0 : ((0 : Int) == 0) = true := rfl
 have n0 : ((0 : Int) != 0) = false := rfl
 have y2 : ((2 : Int) == 2) = true := rfl
 have n2 : ((2 : Int) != 2) = false := rfl
 have y5 : ((5 : Int) == 5) = true := rfl
 have n5 : ((5 : Int) != 5) = false := rfl
 refine pure_of_pwp_d mixed rfl ok_law_PlateCuts ?_
 by_cases s1 : (d.cir.length : Int) > 8
 ·simp only [pc_law_PlateCuts, rs_law_PlateCuts, dv_Dvd, List.not_mem_nil, List.length_map, s1, RN, qA, qB, qC, qD, qE, qF]
  refine call_d rfl rfl hkn ?_
  simp only [RN, qA, qB, qC, qD, qE, qF]
 by_cases s2 : (counts.length : Int) > 8
 ·simp only [pc_law_PlateCuts, rs_law_PlateCuts, dv_Dvd, List.not_mem_nil, List.length_map, s1, s2, RN, qA, qB, qC, qD, qE, qF]
  refine call_d rfl rfl hkn ?_
  simp only [RN, qA, qB, qC, qD, qE, qF]
 have h1 := Cuts_c d t (by omega)
 have h2 := Numbers_c d (by omega)
 have h3 := Circles_c d counts (by omega) (by omega)
 have h4 := rDivider_c d (by omega)
 have hcnt := rCounts_c counts (by omega)
 rw [dv_Dvd] at h1 h2 h3 h4
 rw [dv_Ix] at h1
 simp only [pc_law_PlateCuts, rs_law_PlateCuts, dv_Dvd, List.not_mem_nil, List.length_map, s1, s2, RN, qA, qB, qC, qD, qE, qF]
 refine call_d rfl rfl h1 ?_
 simp only [List.not_mem_nil, RN, qA, qB, qC, qD, qE, qF]
 refine call_d rfl rfl h2 ?_
 simp only [RN, qA, qB, qC, qD, qE, qF]
 refine call_d rfl rfl h3 ?_
 simp only [RN, qA, qB, qC, qD, qE, qF]
 refine call_d rfl rfl h4 ?_
 cases hok : d.ok
 ·have e1 : d.cuts t = (⟨0, 0, 0⟩, 2) := by rw [Dvd.cuts, hok]; rfl
  have e2 : d.numbers = ([], 2) := by rw [Dvd.numbers, hok]; rfl
  have e3 : d.circles counts = (none, 2) := by rw [Dvd.circles, hok]; rfl
  simp only [e1, e2, e3, bestD_n, yn, y2, y0, List.map_nil, List.length_nil, ev_ixT, RN, qA, qB, qC, qD, qE, qF]
  refine call_d rfl rfl hkn ?_
  simp only [RN, qA, qB, qC, qD, qE, qF]
 have e2 : d.numbers = (d.numsTo 400, 0) := by rw [Dvd.numbers, hok]; rfl
 have hbad : countsOk counts = false → d.circles counts = (none, 2) := fun h => by
  rw [counts_eq] at h
  rw [Dvd.circles, Bool.and_assoc, h, Bool.and_false]; rfl
 have hgood : countsOk counts = true → d.circles counts = (match d.firstC counts with | none => (none, 5) | some x => (some x, 0)) := fun h => by
  rw [counts_eq] at h
  rw [Dvd.circles, Bool.and_assoc, h, hok, best_lists _ _ _ (d.cir.length + 1) (Nat.lt_succ_self _), Dvd.firstC]; rfl
 have hpos : countsOk counts = true → ∀ n ∈ counts, 1 ≤ n := fun h n hn => by
  rw [countsOk, Bool.and_eq_true, List.all_eq_true] at h
  have := h.1 n hn
  simp only [inR, Bool.and_eq_true, decide_eq_true_eq] at this; omega
 have h5 := rNumbers_c d hok
 rw [dv_Dvd] at h5
 have hnl := numsTo_len d 400
 have e0 : decide (d.numsTo 400 = d.numsTo 400) = true := decide_eq_true rfl
 simp only [e2, n0, RN, qA, qB, qC, qD, qE, qF]
 refine call_d rfl rfl h5 ?_
 refine call_d rfl rfl (Same_c _ _ (by omega)) ?_
 rw [e0]
 simp only [RN, qA, qB, qC, qD, qE, qF]
 refine call_d rfl rfl (rCount_c t) ?_
 cases ht : inR t 1 400
 ·have e1 : d.cuts t = (⟨0, 0, 0⟩, 2) := by rw [Dvd.cuts, hok, ht]; rfl
  simp only [e1, n2, ev_ixF, RN, qA, qB, qC, qD, qE, qF]
  refine call_d rfl rfl hcnt ?_
  cases hc : countsOk counts
  ·have e3 := hbad hc
   simp only [e3, bestD_n, y2, yn, RN, qA, qB, qC, qD, qE, qF]
   refine call_d rfl rfl hkn ?_
   simp only [RN, qA, qB, qC, qD, qE, qF]
  have e3 := hgood hc
  have h6 := rCircles_c d counts hok (by omega) (hpos hc)
  rw [dv_Dvd] at h6
  simp only [RN, qA, qB, qC, qD, qE, qF]
  refine call_d rfl rfl h6 ?_
  cases hf : d.firstC counts with
  | none =>
   rw [hf] at e3
   simp only [e3, bestD_n, y5, yn, Option.isSome_none, RN, qA, qB, qC, qD, qE, qF]
   refine call_d rfl rfl hkn ?_
   simp only [RN, qA, qB, qC, qD, qE, qF]
  | some x =>
   rw [hf] at e3
   have hxl := firstC_len hf
   have ex : decide (x = x) = true := decide_eq_true rfl
   simp only [e3, bestD_s, y0, Option.isSome_some, RN, qA, qB, qC, qD, qE, qF]
   refine call_d rfl rfl (Same_c _ _ (by omega)) ?_
   rw [ex]
   simp only [RN, qA, qB, qC, qD, qE, qF]
   refine call_d rfl rfl hkn ?_
   simp only [RN, qA, qB, qC, qD, qE, qF]
 have h7 := rCuts_c d t hok (by simp only [inR, Bool.and_eq_true, decide_eq_true_eq] at ht; omega)
 rw [dv_Dvd, dv_Ix] at h7
 have e1 : d.cuts t = (match d.first t with | some x => (x, 0) | none => (⟨0, 0, 0⟩, 5)) := by rw [Dvd.cuts, hok, ht]; rfl
 simp only [RN, qA, qB, qC, qD, qE, qF]
 refine call_d rfl rfl h7 ?_
 cases hfi : d.first t with
 | none =>
  rw [hfi] at e1
  simp only [e1, ixOf, n5, ev_ixF, Option.getD_none, Option.isSome_none, List.not_mem_nil, RN, qA, qB, qC, qD, qE, qF]
  refine call_d rfl rfl hcnt ?_
  cases hc : countsOk counts
  ·have e3 := hbad hc
   simp only [e3, bestD_n, y2, yn, RN, qA, qB, qC, qD, qE, qF]
   refine call_d rfl rfl hkn ?_
   simp only [RN, qA, qB, qC, qD, qE, qF]
  have e3 := hgood hc
  have h6 := rCircles_c d counts hok (by omega) (hpos hc)
  rw [dv_Dvd] at h6
  simp only [RN, qA, qB, qC, qD, qE, qF]
  refine call_d rfl rfl h6 ?_
  cases hf : d.firstC counts with
  | none =>
   rw [hf] at e3
   simp only [e3, bestD_n, y5, yn, Option.isSome_none, RN, qA, qB, qC, qD, qE, qF]
   refine call_d rfl rfl hkn ?_
   simp only [RN, qA, qB, qC, qD, qE, qF]
  | some x =>
   rw [hf] at e3
   have hxl := firstC_len hf
   have ex : decide (x = x) = true := decide_eq_true rfl
   simp only [e3, bestD_s, y0, Option.isSome_some, RN, qA, qB, qC, qD, qE, qF]
   refine call_d rfl rfl (Same_c _ _ (by omega)) ?_
   rw [ex]
   simp only [RN, qA, qB, qC, qD, qE, qF]
   refine call_d rfl rfl hkn ?_
   simp only [RN, qA, qB, qC, qD, qE, qF]
 | some x =>
  rw [hfi] at e1
  simp only [e1, ixOf, n0, ev_ixF, Option.getD_some, Option.isSome_some, List.not_mem_nil, RN, qA, qB, qC, qD, qE, qF]
  refine call_d rfl rfl hcnt ?_
  cases hc : countsOk counts
  ·have e3 := hbad hc
   simp only [e3, bestD_n, y2, yn, RN, qA, qB, qC, qD, qE, qF]
   refine call_d rfl rfl hkn ?_
   simp only [RN, qA, qB, qC, qD, qE, qF]
  have e3 := hgood hc
  have h6 := rCircles_c d counts hok (by omega) (hpos hc)
  rw [dv_Dvd] at h6
  simp only [RN, qA, qB, qC, qD, qE, qF]
  refine call_d rfl rfl h6 ?_
  cases hf : d.firstC counts with
  | none =>
   rw [hf] at e3
   simp only [e3, bestD_n, y5, yn, Option.isSome_none, RN, qA, qB, qC, qD, qE, qF]
   refine call_d rfl rfl hkn ?_
   simp only [RN, qA, qB, qC, qD, qE, qF]
  | some x =>
   rw [hf] at e3
   have hxl := firstC_len hf
   have ex : decide (x = x) = true := decide_eq_true rfl
   simp only [e3, bestD_s, y0, Option.isSome_some, RN, qA, qB, qC, qD, qE, qF]
   refine call_d rfl rfl (Same_c _ _ (by omega)) ?_
   rw [ex]
   simp only [RN, qA, qB, qC, qD, qE, qF]
   refine call_d rfl rfl hkn ?_
   simp only [RN, qA, qB, qC, qD, qE, qF]
end Go.Tel
