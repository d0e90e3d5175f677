/-
  Part 25 of the proof of a law of plates: an abstract machine over the model, contracts of functions, plain laws.
  Conditions: none.
-/
import Derived.Test.YticjmjdcggomgaaGreatDoorM24
import Derived.IntWalk
import Derived.Shelf.Strings.Cut
set_option linter.all false
open Nat renaming reduceBEq → qA, reduceAdd → qB, reduceSub → qC, reduceEqDiff → qD, reduceLT → qE, reduceLeDiff → qF
namespace Go.Am
theorem ev_slcD_lo {C : Ctx} {base sz : Nat} {M : Mem} {K : PV → Mem → Prop} {KP : DV → Mem → Prop} {xs : List DV} {k : IntKind} {n : Int} (hs : ∀ x ∈ xs, x.cells.length = sz) (h0 : 0 ≤ n) (h1 : n ≤ xs.length) :
  runOp C base (.slcD sz true false false) [.d (.slice false xs), .d (.int k n)] M K KP = K (.d (.slice false (xs.drop n.toNat))) M := by
 simp only [runOp, runSlcD, optInt, Option.getD_some, Option.getD_none, Int.toNat_natCast, List.take_length, Bool.false_and, Bool.or_false]
 refine propext ⟨fun h => h.2.2.2.2.2.2, fun h => ⟨trivial, hs, h0, h1, Int.le_refl _, fun m' hm => hm, h⟩⟩
end Go.Am
namespace Go.Tel
open Go.Am
theorem strs_sz (xs : List ByteArray) : ∀ y ∈ xs.map DV.str, y.cells.length = 1 := by
 intro y hy; obtain ⟨n, _, rfl⟩ := List.mem_map.1 hy; rfl
def mapNum : List ByteArray → List Int → Option (List Int)
 | [], acc => some acc
 | x :: l, acc => match numberS x with
  | some n => mapNum l (acc ++ [n])
  | none => none
def toldS (row : ByteArray) (k many : Nat) : Option (List Int) :=
 if (splitS row 32).length = many + 1 ∧ ((splitS row 32).getD 0 default).data.toList = (wordsL.getD k default).data.toList then mapNum ((splitS row 32).drop 1) [] else none
set_option maxRecDepth 10000 in
set_option maxHeartbeats 2000000 in
theorem told_sc {row : ByteArray} (hr : row.size ≤ 1000000) {k many : Nat} (hk : k < 4) (hm : many ≤ 10) {M : Mem} {K : PV → Mem → Prop} {KP : DV → Mem → Prop} (hK : ∀ ns, toldS row k many = some ns → K (.d (.slice false (ns.map intDV))) M)
  (hP : toldS row k many = none → ∀ d, noneD d → KP d M) : SC Go.Tel.C F.plate_told [.d (.str row), .d (.int .i64 k), .d (.int .i64 many)] M K KP := by
 refine sc_any (ds := [.str row, .int .i64 k, .int .i64 many]) (Kr := fun x => ∃ ns, toldS row k many = some ns ∧ x = .slice false (ns.map intDV)) (Kp := fun d => toldS row k many = none ∧ noneD d) ?_ (fun x hx => by obtain ⟨n, h1, rfl⟩ := hx; exact hK n h1) (fun d hd => hP hd.1 d hd.2)
 have hl := splitS_len row 32
 have hcb := Go.Lib.countB_le ⟨#[32]⟩ (Nat.le_refl _) row.size row (Nat.le_refl _)
 have hspl := Split_c row 32 hr
 refine sc_of_pwp mixed rfl ok_plate_told ?_
 simp only [pc_plate_told, rs_plate_told, RN, qA, qB, qC, qD, qE, qF]
 refine call_d rfl rfl hspl ?_
 have w1 : IntKind.i64.wrap ((many : Int) + 1) = ((many + 1 : Nat) : Int) := by rw [w64_in (by omega)]; omega
 have toldU : toldS row k many = if (splitS row 32).length = many + 1 ∧ ((splitS row 32).getD 0 default).data.toList = (wordsL.getD k default).data.toList then mapNum ((splitS row 32).drop 1) [] else none := rfl
 have hlb : (splitS row 32).length ≤ 1000001 := by omega
 have hl1 : 1 ≤ (splitS row 32).length := by omega
 generalize splitS row 32 = ws at *
 by_cases e1 : ws.length = many + 1
 case neg =>
  have b1 : ((ws.length : Int) == ((many + 1 : Nat) : Int)) = false := beq_eq_false_iff_ne.2 (by omega)
  simp only [List.length_map, w1, b1, RN, qA, qB, qC, qD, qE, qF]
  exact sure_sc (fun h => by cases h) (fun _ d hdd => ⟨by rw [toldU, if_neg (fun hh => e1 hh.1)], hdd⟩)
 have b1 : ((ws.length : Int) == ((many + 1 : Nat) : Int)) = true := beq_iff_eq.2 (by omega)
 have i0 : (0 : Int) ≤ 0 := by decide
 have l0 : 0 < ws.length := by omega
 have k0 : (0 : Int) ≤ (k : Int) := by omega
 have k4 : (k : Int) < ((4 : Nat) : Int) := by omega
 simp only [List.length_map, w1, b1, i0, l0, Int.toNat_zero, getD_map, dcells_str, RN, qA, qB, qC, qD, qE, qF]
 refine call_d rfl rfl words_c ?_
 have hcell : (PV.cells (.d (.agg [.str ⟨#[112, 105, 101, 99, 101]⟩, .str ⟨#[99, 101, 110, 116, 114, 101]⟩, .str ⟨#[119, 104, 101, 101, 108]⟩, .str ⟨#[109, 101, 115, 104]⟩]))).getD ((k : Int).toNat * 1) .dead = .d (.str (wordsL.getD k default)) := by
  obtain rfl | rfl | rfl | rfl : k = 0 ∨ k = 1 ∨ k = 2 ∨ k = 3 := by omega
  all_goals rfl
 have hkl : (k : Int).toNat * 1 + 1 ≤ (PV.cells (.d (.agg [.str ⟨#[112, 105, 101, 99, 101]⟩, .str ⟨#[99, 101, 110, 116, 114, 101]⟩, .str ⟨#[119, 104, 101, 101, 108]⟩, .str ⟨#[109, 101, 115, 104]⟩]))).length := by
  show _ ≤ 4
  rw [Int.toNat_natCast]; omega
 refine ⟨rfl, k0, k4, hkl, ?_⟩
 rw [hcell]
 simp only [bin_str, str_eql, RN, qA, qB, qC, qD, qE, qF]
 have hbeq : ((ws.getD 0 default).toList == (wordsL.getD k default).toList) = decide ((ws.getD 0 default).data.toList = (wordsL.getD k default).data.toList) := by
  rw [Go.Lib.toList_data, Go.Lib.toList_data]; exact Bool.eq_iff_iff.2 (by rw [beq_iff_eq, decide_eq_true_eq])
 rw [hbeq]
 refine sure_sc (fun e2 => ?_) (fun e2 d hdd => ⟨by rw [toldU, if_neg (fun hh => of_decide_eq_false e2 hh.2)], hdd⟩)
 rw [if_pos ⟨e1, of_decide_eq_true e2⟩] at toldU
 rw [ev_slcD_lo (strs_sz ws) (by decide) (by rw [List.length_map]; omega)]
 have hdm : (ws.map DV.str).drop (Int.toNat 1) = (ws.drop 1).map DV.str := by rw [List.map_drop]; rfl
 rw [hdm]
 have hxl : (ws.drop 1).length ≤ 10 := by simp; omega
 generalize ws.drop 1 = xs at *
 simp only [List.length_map, RN, qA, qB, qC, qD, qE, qF]
 refine pwp_range xs.length (fun i (q : List Int × Nat) => ⟨[(8, .tsl 1 q.2 0), (31, .d (.slice false (xs.map .str))), (32, .d (.int .i64 xs.length)), (33, .d (.int .i64 i))], ⟨[], [], [some ⟨1, [], 0, 0⟩, some ⟨1, q.1.map intDV, q.2, 0⟩]⟩⟩)
  (fun i q => mapNum xs [] = mapNum (xs.drop i) q.1 ∧ q.1.length = i) 0 ([], 0) (Nat.zero_le _) rfl ⟨rfl, rfl⟩ (fun i q g1 hix => ?_) (fun q hix => ?_)
 ·obtain ⟨acc, ver⟩ := q
  obtain ⟨r1, r2⟩ := hix
  simp only at r1 r2
  obtain ⟨g2, g3, g6⟩ := rng g1 (by omega)
  rw [drop_cons g1, mapNum] at r1
  simp only [g2, g3, g1, getD_map, Int.toNat_natCast, List.length_map, dcells_str, RN, qA, qB, qC, qD, qE, qF]
  refine number_sc (fun n hn => ?_) (fun hn d hdd => ?_)
  ·rw [hn] at r1
   simp only [ev_mkSl1, fits_int, forall_eq, DV.strip, dcells_int, List.length_map, RN, qA, qB, qC, qD, qE, qF]
   refine ⟨by simp, by omega, ?_⟩
   simp only [g6, RN, qA, qB, qC, qD, qE, qF]
   refine up_same (acc ++ [n], ver + 1) g1 ?_ ⟨r1, by simp [r2]⟩ (by simp) (by simp) rfl rfl
   simp only [List.map_append, List.map_cons, List.map_nil, dv_int]; rfl
  ·rw [hn] at r1
   exact ⟨by rw [toldU, r1], hdd⟩
 ·obtain ⟨acc, ver⟩ := q
  obtain ⟨r1, r2⟩ := hix
  simp only at r1 r2
  rw [List.drop_length, mapNum] at r1
  simp only [Int.lt_irrefl, RN, qA, qB, qC, qD, qE, qF]
  exact ⟨_, datum_tsl (k := 1) rfl rfl, acc, by rw [toldU, r1], rfl⟩
end Go.Tel
namespace Go.Proofs
open Go.Shelf Go.RowKit Go.Lib
section
variable {P : Program} {ρ : Ren}
set_option maxHeartbeats 2000000 in
set_option maxRecDepth 100000 in
theorem cutL_one (L : Lays.n220 P ρ) (s : ByteArray) (ch : UInt8) (w : World) (hs : s.size < 4294967281) :
  Calls P (ρ.f 220) #[.string s, .string ⟨#[ch]⟩] w fun e w' => e = .returned (.tuple #[.string ⟨(Lib.cut s.data.toList [ch]).1.toArray⟩, .string ⟨(Lib.cut s.data.toList [ch]).2.1.toArray⟩, .bool (Lib.cut s.data.toList [ch]).2.2]) ∧ ∃ n, w' = w.drewN n := by
 rcases Lib.indexB_cases s ⟨#[ch]⟩ with hix | ⟨i, hix, hroom⟩
 ·obtain ⟨e1, e2, e3⟩ := Lib.cutB_miss s ⟨#[ch]⟩ hix
  have hib : Lib.indexByte s.data.toList ch = -1 := by rw [← Lib.index_one]; exact hix
  show Calls P (ρ.f 220) #[.string s, .string ⟨#[ch]⟩] w fun e w' => e = .returned (.tuple #[.string ⟨(Lib.cut s.data.toList (⟨#[ch]⟩ : ByteArray).data.toList).1.toArray⟩, .string ⟨(Lib.cut s.data.toList (⟨#[ch]⟩ : ByteArray).data.toList).2.1.toArray⟩, .bool (Lib.cut s.data.toList (⟨#[ch]⟩ : ByteArray).data.toList).2.2]) ∧ ∃ n, w' = w.drewN n
  rw [e1, e2, e3]
  have t3 := L.t3; have t4 := L.t4; have t9 := L.t9
  have a3 : ∀ w, (isAgg (ρ.t 3)).run P w = .ok false w := run_isAgg_plain L.t3 rfl; have a4 : ∀ w, (isAgg (ρ.t 4)).run P w = .ok false w := run_isAgg_plain L.t4 rfl; have a9 : ∀ w, (isAgg (ρ.t 9)).run P w = .ok false w := run_isAgg_plain L.t9 rfl
  have e219 : ∀ args w, (callFunc (ρ.f 219) args).run P w = .ok (.enter (ρ.f 219) args) w := enters_of L.f219 (by kernel_rfl) rfl
  have mixed := L.mixed; have z3 := L.z3; have v3 := L.v3; have z4 := L.z4; have v4 := L.v4; have z9 := L.z9; have v9 := L.v9
  go_enter L.f220, Body.n220_ntmps ρ
  go_wp2_with (go_at_fn (ρ.f 219); refine (Any.stringslite_Index_one { L with } _ _ _).mono ?_; rintro e w' ⟨rfl, rfl⟩; rw [hib])
  go_ret3
  exact ⟨rfl, 0, rfl⟩
 ·obtain ⟨e1, e2, e3⟩ := Lib.cutB_hit s ⟨#[ch]⟩ i hix
  have hib : Lib.indexByte s.data.toList ch = i := by rw [← Lib.index_one]; exact hix
  show Calls P (ρ.f 220) #[.string s, .string ⟨#[ch]⟩] w fun e w' => e = .returned (.tuple #[.string ⟨(Lib.cut s.data.toList (⟨#[ch]⟩ : ByteArray).data.toList).1.toArray⟩, .string ⟨(Lib.cut s.data.toList (⟨#[ch]⟩ : ByteArray).data.toList).2.1.toArray⟩, .bool (Lib.cut s.data.toList (⟨#[ch]⟩ : ByteArray).data.toList).2.2]) ∧ ∃ n, w' = w.drewN n
  rw [e1, e2, e3]
  have c1 : (0 : Int) ≤ ↑i := by omega
  have c2 : (↑i : Int) ≤ ↑s.size := by omega
  have hz1 : (⟨#[ch]⟩ : ByteArray).size = 1 := rfl
  have c3 : (0 : Int) ≤ ↑i + 1 := by omega
  have c4 : (↑i + 1 : Int) ≤ ↑s.size := by omega
  have c5 : IntKind.i64.wrap (↑i + 1) = (↑i + 1 : Int) := Go.IntWalk.i64_in _ (by omega)
  have t3 := L.t3; have t4 := L.t4; have t9 := L.t9
  have a3 : ∀ w, (isAgg (ρ.t 3)).run P w = .ok false w := run_isAgg_plain L.t3 rfl; have a4 : ∀ w, (isAgg (ρ.t 4)).run P w = .ok false w := run_isAgg_plain L.t4 rfl; have a9 : ∀ w, (isAgg (ρ.t 9)).run P w = .ok false w := run_isAgg_plain L.t9 rfl
  have e219 : ∀ args w, (callFunc (ρ.f 219) args).run P w = .ok (.enter (ρ.f 219) args) w := enters_of L.f219 (by kernel_rfl) rfl
  have mixed := L.mixed; have z3 := L.z3; have v3 := L.v3; have z4 := L.z4; have v4 := L.v4; have z9 := L.z9; have v9 := L.v9
  go_enter L.f220, Body.n220_ntmps ρ
  go_wp2_with (go_at_fn (ρ.f 219); refine (Any.stringslite_Index_one { L with } _ _ _).mono ?_; rintro e w' ⟨rfl, rfl⟩; rw [hib])
  go_region_o
  go_wp2
  go_ret3
  exact ⟨rfl, 1, rfl⟩
end
end Go.Proofs
namespace Go.Tel
open Go.Am
def cutS (s : ByteArray) (c : UInt8) : ByteArray := ⟨(Go.Lib.cut s.data.toList [c]).1.toArray⟩
def cutR (s : ByteArray) (c : UInt8) : ByteArray := ⟨(Go.Lib.cut s.data.toList [c]).2.1.toArray⟩
theorem CutL_c (s : ByteArray) (c : UInt8) (hs : s.size ≤ 1000000) : Am.Pure Go.Tel.C F.stringslite_Cut [.str s, .str ⟨#[c]⟩] (.d (.tup [.str (cutS s c), .str (cutR s c), .bool (Go.Lib.cut s.data.toList [c]).2.2])) [] := by
 refine pure_of_calls fun X w vals hG hx hr => ?_
 cases hr with | cons h1 t1 =>
 cases t1 with | cons h2 t2 =>
 cases t2
 cases h1
 cases h2
 refine (Go.Proofs.cutL_one Go.Proofs.Tryz.laysCutL s c w (by omega)).mono ?_
 rintro e w' ⟨rfl, n, rfl⟩
 exact ⟨_, rfl, ⟨rfl, rfl, rfl, Nat.le_refl _, fun b hb => rfl⟩, .tup (.cons (.str _) (.cons (.str _) (.cons (.bool _) .nil)))⟩
end Go.Tel
open Nat renaming reduceBEq → qA, reduceAdd → qB, reduceSub → qC, reduceEqDiff → qD, reduceLT → qE, reduceLeDiff → qF
namespace Go.Am
section
variable {C : Ctx} {base : Nat} {M : Mem} {K : PV → Mem → Prop} {KP : DV → Mem → Prop}
theorem ev_slcS_hi {s : ByteArray} {k : IntKind} {n : Int} (h0 : 0 ≤ n) (h1 : n ≤ s.size) : runOp C base (.slcS false true) [.d (.str s), .d (.int k n)] M K KP = K (.d (.str (s.extract 0 n.toNat))) M := by
 simp only [runOp, runSlcS, optInt, Option.getD_some, Option.getD_none]
 exact propext ⟨fun h => h.2.2.2.2.2, fun h => ⟨trivial, trivial, Int.le_refl _, h0, h1, h⟩⟩
theorem ev_slcS_lo {s : ByteArray} {k : IntKind} {n : Int} (h0 : 0 ≤ n) (h1 : n ≤ s.size) : runOp C base (.slcS true false) [.d (.str s), .d (.int k n)] M K KP = K (.d (.str (s.extract n.toNat s.size))) M := by
 simp only [runOp, runSlcS, optInt, Option.getD_some, Option.getD_none, Int.toNat_natCast]
 exact propext ⟨fun h => h.2.2.2.2.2, fun h => ⟨trivial, trivial, h0, h1, Int.le_refl _, h⟩⟩
end
def kOf : PV → Option Nat
 | .tsl k _ _ => some k
 | _ => none
def sl (sz : Nat) (c : PV) (xs : List DV) (ar : List (Option Arr)) : Prop := (c = .d (.slice true []) ∧ xs = []) ∨ ∃ k ver, c = .tsl k ver 0 ∧ ar[k]? = some (some ⟨sz, xs, ver, 0⟩)
def dist (a b : PV) : Prop := ∀ k, kOf a = some k → kOf b ≠ some k
theorem app_rel {sz : Nat} {c : PV} {xs : List DV} {x : DV} {bs : List (Option (List PV))} {fz : List Nat} {ar : List (Option Arr)} {K : PV → Mem → Prop} (h : sl sz c xs ar) (hs : 0 < sz) (hx : x.fits sz = true) (hl : xs.length + 1 ≤ 1073741824)
  (hK : ∀ c' ar', sl sz c' (xs ++ [x]) ar' → (∀ sz' d ys, sl sz' d ys ar → dist c d → sl sz' d ys ar' ∧ dist c' d) → K c' ⟨bs, fz, ar'⟩) : runApp sz false c (.d (.slice true [x])) ⟨bs, fz, ar⟩ K := by
 rcases h with ⟨rfl, rfl⟩ | ⟨k, ver, rfl, hk⟩
 ·simp only [runApp, appd]
  refine ⟨hs, by simpa using hx, by simp, trivial, by simp, by simpa using hl, ?_⟩
  refine hK _ _ (.inr ⟨ar.length, 0, rfl, by simp⟩) ?_
  rintro sz' d ys (⟨rfl, rfl⟩ | ⟨j, v, rfl, hj⟩) hd
  ·exact ⟨.inl ⟨rfl, rfl⟩, fun k _ h => by cases h⟩
  ·have hlt : j < ar.length := (List.getElem?_eq_some_iff.1 hj).1
   refine ⟨.inr ⟨j, v, rfl, by rw [List.getElem?_append_left hlt]; exact hj⟩, fun k hk h => ?_⟩
   cases hk; cases h; omega
 ·simp only [runApp, appd, row_m, hk, if_true]
  refine ⟨hs, by simpa using hx, by simp, trivial, by decide, by simpa using hl, ?_⟩
  have hlt : k < ar.length := (List.getElem?_eq_some_iff.1 hk).1
  refine hK _ _ (.inr ⟨k, ver + 1, rfl, by simp [hlt]⟩) ?_
  rintro sz' d ys (⟨rfl, rfl⟩ | ⟨j, v, rfl, hj⟩) hd
  ·exact ⟨.inl ⟨rfl, rfl⟩, fun k _ h => by cases h⟩
  ·have hne : k ≠ j := fun e => hd k rfl (by rw [e]; rfl)
   exact ⟨.inr ⟨j, v, rfl, by rw [List.getElem?_set_ne hne]; exact hj⟩, fun k' hk' h => by cases hk'; cases h; exact hne rfl⟩
end Go.Am
namespace Go.Tel
open Go.Am
set_option maxRecDepth 10000 in
theorem Cut_c (s : ByteArray) (c : UInt8) (hs : s.size ≤ 1000000) : Pure C F.strings_Cut [.str s, .str ⟨#[c]⟩] (.d (.tup [.str (cutS s c), .str (cutR s c), .bool (Go.Lib.cut s.data.toList [c]).2.2])) [] := by
 refine pure_of_pwp_d mixed rfl ok_strings_Cut ?_
 simp only [pc_strings_Cut, rs_strings_Cut, RN, qA, qB, qC, qD, qE, qF]
 refine call_d rfl rfl (CutL_c s c hs) ?_
 simp only [RN, qA, qB, qC, qD, qE, qF]
end Go.Tel
namespace Go.Am
theorem app_rel2 {sz : Nat} {c : PV} {xs : List DV} {x : DV} {bs : List (Option (List PV))} {fz : List Nat} {ar : List (Option Arr)} {K : PV → Mem → Prop} (h : sl sz c xs ar) (hs : 0 < sz) (hx : x.fits sz = true) (hl : xs.length + 1 ≤ 1073741824)
  (hK : ∀ k' v' ar', sl sz (.tsl k' v' 0) (xs ++ [x]) ar' → (∀ sz' d ys, sl sz' d ys ar → dist c d → sl sz' d ys ar' ∧ dist (.tsl k' v' 0) d) → K (.tsl k' v' 0) ⟨bs, fz, ar'⟩) : runApp sz false c (.d (.slice true [x])) ⟨bs, fz, ar⟩ K := by
 refine app_rel h hs hx hl fun c' ar' h1 h2 => ?_
 rcases h1 with ⟨_, h⟩ | ⟨k', v', rfl, hk⟩
 ·simp at h
 ·exact hK k' v' ar' (.inr ⟨k', v', rfl, hk⟩) h2
theorem dist_symm {a b : PV} (h : dist a b) : dist b a := fun k h1 h2 => h k h2 h1
theorem pure_weaken1 {C : Ctx} {f : FuncId} {d d' : DV} {r : PV} {rows : List Arr} (hw : ∀ (w : World) (X : Nat → Prop) (v : Value), RepD w X v d → RepD w X v d') (hp : Pure C f [d'] r rows) : Pure C f [d] r rows := by
 intro X w vals hG hl hx hr
 cases hr with | cons h1 t =>
 cases t
 exact hp X w _ hG hl hx (.cons (hw w X _ h1) .nil)
end Go.Am
namespace Go.Tel
open Go.Am
theorem numGo_bd (w : ByteArray) : ∀ (k pos : Nat) (n m : Int), numGo w k pos n = some m → 0 ≤ n → n < 10 ^ pos → 0 ≤ m ∧ m < 10 ^ (pos + k)
 | 0, pos, n, m, h, h0, h1 => by
  rw [numGo] at h
  cases h
  exact ⟨h0, by simpa using h1⟩
 | k + 1, pos, n, m, h, h0, h1 => by
  rw [numGo] at h
  split at h
  ·rename_i hc
   have := numGo_bd w k (pos + 1) _ m h (by omega) (by rw [Int.pow_succ]; omega)
   rwa [show pos + 1 + k = pos + (k + 1) by omega] at this
  ·cases h
theorem numberS_bd {w : ByteArray} {n : Int} (h : numberS w = some n) : 0 ≤ n ∧ n ≤ 999 := by
 rw [numberS] at h
 cases hg : numGo w w.size 0 0 with
 | none => rw [hg] at h; cases h
 | some m =>
  rw [hg] at h
  simp only at h
  split at h
  ·rename_i hc
   cases h
   obtain ⟨k, hk⟩ : ∃ k, w.size = k + 1 := ⟨w.size - 1, by omega⟩
   have h3 : w.size ≤ 3 := by
    have hg' := hg
    rw [hk, numGo] at hg'
    split at hg'
    ·rename_i hh; omega
    ·cases hg'
   have := numGo_bd w w.size 0 0 n hg (by decide) (by decide)
   have h10 : (10 : Int) ^ (0 + w.size) ≤ 1000 := by
    generalize w.size = z at h3
    rcases z with _ | _ | _ | _ | z
    ·decide
    ·decide
    ·decide
    ·decide
    ·omega
   omega
  ·cases h
theorem mapNum_bd : ∀ (l : List ByteArray) (acc ns : List Int), mapNum l acc = some ns → (∀ n ∈ acc, 0 ≤ n ∧ n ≤ 999) → ns.length = acc.length + l.length ∧ ∀ n ∈ ns, 0 ≤ n ∧ n ≤ 999
 | [], acc, ns, h, ha => by rw [mapNum] at h; cases h; exact ⟨rfl, ha⟩
 | x :: l, acc, ns, h, ha => by
  rw [mapNum] at h
  cases hx : numberS x with
  | none => rw [hx] at h; cases h
  | some n =>
   rw [hx] at h
   have := mapNum_bd l (acc ++ [n]) ns h (fun m hm => by
    rcases List.mem_append.1 hm with hm | hm
    ·exact ha m hm
    ·rw [List.mem_singleton.1 hm]; exact numberS_bd hx)
   simp only [List.length_append, List.length_cons, List.length_nil] at this ⊢
   exact ⟨by omega, this.2⟩
theorem toldS_bd {row : ByteArray} {k many : Nat} {ns : List Int} (h : toldS row k many = some ns) : ns.length = many ∧ ∀ i, 0 ≤ ns.getD i default ∧ ns.getD i default ≤ 999 := by
 rw [toldS] at h
 split at h
 ·rename_i hc
  obtain ⟨h1, h2⟩ := mapNum_bd _ _ _ h (by simp)
  refine ⟨by simp only [List.length_nil, List.length_drop] at h1; omega, fun i => ?_⟩
  by_cases hi : i < ns.length
  ·exact h2 _ (getD_mem hi)
  ·rw [List.getD_eq_getElem?_getD, List.getElem?_eq_none (by omega)]; decide
 ·cases h
theorem splitB_size (sep : ByteArray) (sv : Nat) : ∀ (k : Nat) (s : ByteArray), ∀ x ∈ Go.Lib.splitB sep sv k s, x.size ≤ s.size
 | 0, s, x, h => by rw [Go.Lib.splitB_zero, List.mem_singleton] at h; rw [h]; exact Nat.le_refl _
 | k + 1, s, x, h => by
  rw [Go.Lib.splitB] at h
  split at h
  ·rw [List.mem_singleton] at h; rw [h]; exact Nat.le_refl _
  ·rcases List.mem_cons.1 h with rfl | h
   ·rw [ByteArray.size_extract]; omega
   ·have := splitB_size sep sv k _ x h
    rw [ByteArray.size_extract] at this; omega
theorem splitS_size {s : ByteArray} {c : UInt8} : ∀ x ∈ splitS s c, x.size ≤ s.size := splitB_size _ _ _ _
def lineS (p : Piece) (r : ByteArray) : Option Piece :=
 if (cutS r 32).data.toList = (wordsL.getD 1 default).data.toList then (match toldS r 1 2 with | some ns => some { p with cs := p.cs ++ [⟨ns.getD 0 default, ns.getD 1 default⟩] } | none => none)
 else if (cutS r 32).data.toList = (wordsL.getD 2 default).data.toList then (match toldS r 2 4 with | some ns => some { p with ws := p.ws ++ [⟨ns.getD 0 default, ns.getD 1 default, ns.getD 2 default, ns.getD 3 default⟩] } | none => none)
 else (match toldS r 3 2 with | some ns => some { p with ms := p.ms ++ [⟨ns.getD 0 default, ns.getD 1 default⟩] } | none => none)
def linesS : List ByteArray → Piece → Option Piece
 | [], p => some p
 | r :: l, p => match lineS p r with
  | some p' => linesS l p'
  | none => none
def parsedS (s : ByteArray) : Option Piece :=
 if 3 ≤ (splitS s 10).length then (match toldS ((splitS s 10).getD 0 default) 0 5 with
  | some ns => (match linesS (((splitS s 10).take ((splitS s 10).length - 2)).drop 1) ⟨ns.getD 0 default, ns.getD 1 default, ns.getD 2 default, ns.getD 3 default, ns.getD 4 default, [], [], []⟩ with
   | some p => if p.text.data.toList = s.data.toList then some p else none
   | none => none)
  | none => none) else none
def pdvG (p : Piece) (e5 e6 e7 : Bool) : DV := .agg [.int .i64 p.w, .int .i64 p.h, .int .i64 p.pl, .int .i64 p.ga, .int .i64 p.po, .slice e5 (p.cs.map Pt.dv), .slice e6 (p.ws.map Wh.dv), .slice e7 (p.ms.map Ms.dv)]
theorem pdvG_weak {p : Piece} {e5 e6 e7 : Bool} (w : World) (X : Nat → Prop) (v : Value) (h : RepD w X v (pdvG p e5 e6 e7)) : RepD w X v p.dv := by
 rw [dv_Piece]
 rw [pdvG] at h
 cases h with | agg h =>
 refine .agg ?_
 generalize Array.toList _ = vs at h
 cases h with | cons h1 h => cases h with | cons h2 h => cases h with | cons h3 h => cases h with | cons h4 h => cases h with | cons h5 h => cases h with | cons h6 h => cases h with | cons h7 h => cases h with | cons h8 h =>
 exact .cons h1 (.cons h2 (.cons h3 (.cons h4 (.cons h5 (.cons h6.unex (.cons h7.unex (.cons h8.unex h)))))))
end Go.Tel
open Nat renaming reduceBEq → qA, reduceAdd → qB, reduceSub → qC, reduceEqDiff → qD, reduceLT → qE, reduceLeDiff → qF
namespace Go.Am
theorem ev_slcD_lohi {C : Ctx} {base sz : Nat} {M : Mem} {K : PV → Mem → Prop} {KP : DV → Mem → Prop} {xs : List DV} {k k' : IntKind} {a b : Int} (hs : ∀ x ∈ xs, x.cells.length = sz) (h0 : 0 ≤ a) (h1 : a ≤ b) (h2 : b ≤ xs.length) :
  runOp C base (.slcD sz true true false) [.d (.slice false xs), .d (.int k a), .d (.int k' b)] M K KP = K (.d (.slice false ((xs.take b.toNat).drop a.toNat))) M := by
 simp only [runOp, runSlcD, optInt, Option.getD_some, Bool.false_and, Bool.or_false]
 refine propext ⟨fun h => h.2.2.2.2.2.2, fun h => ⟨trivial, hs, h0, h1, h2, fun m' hm => by simp at hm, h⟩⟩
end Go.Am
namespace Go.Tel
open Go.Am
def noCs : List PV := [.d (.int .i64 0), .d (.int .i64 0), .d (.int .i64 0), .d (.int .i64 0), .d (.int .i64 0), .d (.slice true []), .d (.slice true []), .d (.slice true [])]
structure PRel (p : Piece) (c5 c6 c7 : PV) (ar : List (Option Arr)) : Prop where
 cs : sl 2 c5 (p.cs.map Pt.dv) ar
 ws : sl 4 c6 (p.ws.map Wh.dv) ar
 ms : sl 2 c7 (p.ms.map Ms.dv) ar
 d56 : dist c5 c6
 d57 : dist c5 c7
 d67 : dist c6 c7
structure PNum (p : Piece) (i : Nat) : Prop where
 cs : ∀ c ∈ p.cs, ∀ n ∈ c.nums, 0 ≤ n ∧ n ≤ 999
 ws : ∀ c ∈ p.ws, ∀ n ∈ c.nums, 0 ≤ n ∧ n ≤ 999
 ms : ∀ c ∈ p.ms, ∀ n ∈ c.nums, 0 ≤ n ∧ n ≤ 999
 len : p.cs.length + p.ws.length + p.ms.length = i
 nums : ∀ n ∈ p.nums, 0 ≤ n ∧ n ≤ 999
theorem words_1 : (PV.cells (.d (.agg [.str ⟨#[112, 105, 101, 99, 101]⟩, .str ⟨#[99, 101, 110, 116, 114, 101]⟩, .str ⟨#[119, 104, 101, 101, 108]⟩, .str ⟨#[109, 101, 115, 104]⟩]))).getD (Int.toNat 1 * 1) .dead = .d (.str (wordsL.getD 1 default)) := rfl
theorem words_2 : (PV.cells (.d (.agg [.str ⟨#[112, 105, 101, 99, 101]⟩, .str ⟨#[99, 101, 110, 116, 114, 101]⟩, .str ⟨#[119, 104, 101, 101, 108]⟩, .str ⟨#[109, 101, 115, 104]⟩]))).getD (Int.toNat 2 * 1) .dead = .d (.str (wordsL.getD 2 default)) := rfl
def eF : PV → Bool
 | .d _ => true
 | _ => false
set_option maxRecDepth 10000 in
set_option maxHeartbeats 4000000 in
theorem parsed_sc {s : ByteArray} (hs : s.size ≤ 600) {M : Mem} {K : PV → Mem → Prop} {KP : DV → Mem → Prop} (hK : ∀ p : Piece, parsedS s = some p → p.small → K (.d p.dv) M)
  (hP : parsedS s = none → ∀ d, noneD d → KP d M) : SC Go.Tel.C F.plate_parsed [.d (.str s)] M K KP := by
 refine sc_any (ds := [.str s]) (Kr := fun x => ∃ p : Piece, parsedS s = some p ∧ p.small ∧ x = p.dv) (Kp := fun d => parsedS s = none ∧ noneD d) ?_ (fun x hx => by obtain ⟨p, h1, h2, rfl⟩ := hx; exact hK p h1 h2) (fun d hd => hP hd.1 d hd.2)
 have hl := splitS_len s 10
 have hcb := Go.Lib.countB_le ⟨#[10]⟩ (Nat.le_refl _) s.size s (Nat.le_refl _)
 have hspl := Split_c s 10 (by omega)
 have hsz := splitS_size (s := s) (c := 10)
 have hU : parsedS s = parsedS s := rfl
 conv at hU => rhs; rw [parsedS]
 refine sc_of_pwp mixed rfl ok_plate_parsed ?_
 simp only [pc_plate_parsed, rs_plate_parsed, RN, qA, qB, qC, qD, qE, qF]
 refine call_d rfl rfl hspl ?_
 have hlb : (splitS s 10).length ≤ 601 := by omega
 generalize splitS s 10 = rows at *
 by_cases h3 : 3 ≤ rows.length
 case neg =>
  have b1 : ¬ ((rows.length : Int) ≥ 3) := by omega
  simp only [List.length_map, b1, RN, qA, qB, qC, qD, qE, qF]
  exact sure_sc (fun h => by cases h) (fun _ d hdd => ⟨by rw [hU, if_neg h3], hdd⟩)
 have b1 : ((rows.length : Int) ≥ 3) := by omega
 simp only [List.length_map, b1, RN, qA, qB, qC, qD, qE, qF]
 refine sure_sc (fun _ => ?_) (fun h => by cases h)
 rw [if_pos h3] at hU
 have i0 : (0 : Int) ≤ 0 := by decide
 have l0 : 0 < rows.length := by omega
 simp only [List.length_map, i0, l0, Int.toNat_zero, getD_map, dcells_str, RN, qA, qB, qC, qD, qE, qF]
 refine told_sc (k := 0) (many := 5) (by have := hsz _ (getD_mem l0); omega) (by decide) (by decide) (fun ns hns => ?_) (fun hns d hdd => ⟨by rw [hU, hns], hdd⟩)
 rw [hns] at hU
 obtain ⟨hnl, hnb⟩ := toldS_bd hns
 have g0 : (0 : Int) ≤ 0 ∧ Int.toNat 0 < ns.length := by rw [hnl]; decide
 have g1 : (0 : Int) ≤ 1 ∧ Int.toNat 1 < ns.length := by rw [hnl]; decide
 have g2 : (0 : Int) ≤ 2 ∧ Int.toNat 2 < ns.length := by rw [hnl]; decide
 have g3 : (0 : Int) ≤ 3 ∧ Int.toNat 3 < ns.length := by rw [hnl]; decide
 have g4 : (0 : Int) ≤ 4 ∧ Int.toNat 4 < ns.length := by rw [hnl]; decide
 simp only [List.length_map, g0, g1, g2, g3, g4, getD_map, dv_int, RN, qA, qB, qC, qD, qE, qF]
 have w2 : IntKind.i64.wrap ((rows.length : Int) - 2) = ((rows.length - 2 : Nat) : Int) := by rw [w64_in (by omega)]; omega
 rw [w2, ev_slcD_lohi (strs_sz rows) (by decide) (by omega) (by rw [List.length_map]; omega)]
 have hrs : ((rows.map DV.str).take ((rows.length - 2 : Nat) : Int).toNat).drop (Int.toNat 1) = ((rows.take (rows.length - 2)).drop 1).map DV.str := by
  rw [Int.toNat_natCast, ← List.map_take, List.map_drop]; rfl
 rw [hrs]
 have hsz2 : ∀ x ∈ (rows.take (rows.length - 2)).drop 1, x.size ≤ 600 := fun x hx => Nat.le_trans (hsz x (List.mem_of_mem_take (List.mem_of_mem_drop hx))) hs
 have hrl : ((rows.take (rows.length - 2)).drop 1).length ≤ 601 := by simp; omega
 generalize (rows.take (rows.length - 2)).drop 1 = rs at *
 simp only at hU
 simp only [List.length_map, RN, qA, qB, qC, qD, qE, qF]
 refine pwp_range rs.length (fun i (q : Piece × PV × PV × PV × List (Option Arr)) => ⟨[(0, .d (.str s)), (2, .ptr 0 0), (5, .ptr 1 0), (45, .d (.slice false (rs.map .str))), (46, .d (.int .i64 rs.length)), (47, .d (.int .i64 i))],
   ⟨[some noCs, some [.d (.int .i64 q.1.w), .d (.int .i64 q.1.h), .d (.int .i64 q.1.pl), .d (.int .i64 q.1.ga), .d (.int .i64 q.1.po), q.2.1, q.2.2.1, q.2.2.2.1]], [], q.2.2.2.2⟩⟩)
  (fun i q => linesS rs ⟨ns.getD 0 default, ns.getD 1 default, ns.getD 2 default, ns.getD 3 default, ns.getD 4 default, [], [], []⟩ = linesS (rs.drop i) q.1 ∧ PRel q.1 q.2.1 q.2.2.1 q.2.2.2.1 q.2.2.2.2 ∧ PNum q.1 i)
  0 (⟨ns.getD 0 default, ns.getD 1 default, ns.getD 2 default, ns.getD 3 default, ns.getD 4 default, [], [], []⟩, .d (.slice true []), .d (.slice true []), .d (.slice true []), []) (Nat.zero_le _) rfl
  ⟨rfl, ⟨.inl ⟨rfl, rfl⟩, .inl ⟨rfl, rfl⟩, .inl ⟨rfl, rfl⟩, fun k h => by (cases h), fun k h => by (cases h), fun k h => by (cases h)⟩, ⟨by simp, by simp, by simp, rfl, by
   intro n hn
   simp only [Piece.nums, List.mem_cons, List.not_mem_nil, or_false] at hn
   rcases hn with rfl | rfl | rfl | rfl | rfl <;> exact hnb _⟩⟩ (fun i q g1 hix => ?_) (fun q hix => ?_)
 ·obtain ⟨p, c5, c6, c7, ar⟩ := q
  obtain ⟨r1, ⟨q5, q6, q7, qd56, qd57, qd67⟩, q_n⟩ := hix
  simp only at r1 q5 q6 q7 qd56 qd57 qd67 q_n
  obtain ⟨g2, g3', g6⟩ := rng g1 (by omega)
  have hrow := Nat.le_trans (hsz2 _ (getD_mem g1)) (show 600 ≤ 1000000 by decide)
  rw [drop_cons g1, linesS] at r1
  simp only [g2, g3', g1, getD_map, Int.toNat_natCast, List.length_map, dcells_str, RN, qA, qB, qC, qD, qE, qF]
  generalize rs.getD i default = row at *
  refine call_d rfl rfl (Cut_c row 32 hrow) ?_
  simp only [RN, qA, qB, qC, qD, qE, qF]
  refine call_d rfl rfl words_c ?_
  rw [words_1]
  refine ⟨rfl, by decide, by decide, by decide, ?_⟩
  simp only [bin_str, str_eql, noCs, RN, qA, qB, qC, qD, qE, qF]
  have hb1 : ((cutS row 32).toList == (wordsL.getD 1 default).toList) = decide ((cutS row 32).data.toList = (wordsL.getD 1 default).data.toList) := by
   rw [Go.Lib.toList_data, Go.Lib.toList_data]; exact Bool.eq_iff_iff.2 (by rw [beq_iff_eq, decide_eq_true_eq])
  have hb2 : ((cutS row 32).toList == (wordsL.getD 2 default).toList) = decide ((cutS row 32).data.toList = (wordsL.getD 2 default).data.toList) := by
   rw [Go.Lib.toList_data, Go.Lib.toList_data]; exact Bool.eq_iff_iff.2 (by rw [beq_iff_eq, decide_eq_true_eq])
  rw [lineS] at r1
  by_cases e1 : (cutS row 32).data.toList = (wordsL.getD 1 default).data.toList
  ·rw [decide_eq_true e1] at hb1
   rw [if_pos e1] at r1
   simp only [hb1, RN, qA, qB, qC, qD, qE, qF]
   refine told_sc (k := 1) (many := 2) hrow (by decide) (by decide) (fun ns hns => ?_) (fun hns d hdd => ⟨by rw [hU, r1, hns], hdd⟩)
   rw [hns] at r1
   obtain ⟨hml, hmb⟩ := toldS_bd hns
   have m0 : (0 : Int) ≤ 0 ∧ Int.toNat 0 < ns.length := by rw [hml]; decide
   have m1 : (0 : Int) ≤ 1 ∧ Int.toNat 1 < ns.length := by rw [hml]; decide
   simp only [List.length_map, m0, m1, getD_map, dv_int, ev_mkSl1, DV.strip, dcells_agg, RN, qA, qB, qC, qD, qE, qF]
   refine app_rel2 q5 (by decide) rfl (by rw [List.length_map]; have := q_n.len; omega) (fun k' v' ar' h1 h2 => ?_)
   simp only [cells_t, one_t, g6, RN, qA, qB, qC, qD, qE, qF]
   refine up_refl ({ p with cs := p.cs ++ [⟨ns.getD 0 default, ns.getD 1 default⟩] }, .tsl k' v' 0, c6, c7, ar') g1 rfl ⟨r1, ?_, ?_⟩
   ·obtain ⟨a1, a2⟩ := h2 4 c6 _ q6 qd56
    obtain ⟨b1, b2⟩ := h2 2 c7 _ q7 qd57
    exact ⟨by rw [List.map_append]; exact h1, a1, b1, a2, b2, qd67⟩
   ·have new : ∀ n ∈ Pt.nums (⟨ns.getD 0 default, ns.getD 1 default⟩ : Pt), 0 ≤ n ∧ n ≤ 999 := by
     intro n hn
     simp only [Pt.nums, List.mem_cons, List.not_mem_nil, or_false] at hn
     rcases hn with rfl | rfl <;> exact hmb _
    have app : ∀ c ∈ p.cs ++ [⟨ns.getD 0 default, ns.getD 1 default⟩], ∀ n ∈ Pt.nums c, 0 ≤ n ∧ n ≤ 999 := by
     intro c hc
     rcases List.mem_append.1 hc with hc | hc
     ·exact q_n.cs c hc
     ·rw [List.mem_singleton.1 hc]; exact new
    exact { q_n with cs := app, len := by have := q_n.len; simp only [List.length_append, List.length_cons, List.length_nil]; omega }
  ·rw [decide_eq_false e1] at hb1
   rw [if_neg e1] at r1
   simp only [hb1, RN, qA, qB, qC, qD, qE, qF]
   refine call_d rfl rfl words_c ?_
   rw [words_2]
   refine ⟨rfl, by decide, by decide, by decide, ?_⟩
   simp only [bin_str, str_eql, RN, qA, qB, qC, qD, qE, qF]
   by_cases e2 : (cutS row 32).data.toList = (wordsL.getD 2 default).data.toList
   ·rw [decide_eq_true e2] at hb2
    rw [if_pos e2] at r1
    simp only [hb2, RN, qA, qB, qC, qD, qE, qF]
    refine told_sc (k := 2) (many := 4) hrow (by decide) (by decide) (fun ns hns => ?_) (fun hns d hdd => ⟨by rw [hU, r1, hns], hdd⟩)
    rw [hns] at r1
    obtain ⟨hml, hmb⟩ := toldS_bd hns
    have m0 : (0 : Int) ≤ 0 ∧ Int.toNat 0 < ns.length := by rw [hml]; decide
    have m1 : (0 : Int) ≤ 1 ∧ Int.toNat 1 < ns.length := by rw [hml]; decide
    have m2 : (0 : Int) ≤ 2 ∧ Int.toNat 2 < ns.length := by rw [hml]; decide
    have m3 : (0 : Int) ≤ 3 ∧ Int.toNat 3 < ns.length := by rw [hml]; decide
    simp only [List.length_map, m0, m1, m2, m3, getD_map, dv_int, ev_mkSl1, DV.strip, dcells_agg, RN, qA, qB, qC, qD, qE, qF]
    refine app_rel2 q6 (by decide) rfl (by rw [List.length_map]; have := q_n.len; omega) (fun k' v' ar' h1 h2 => ?_)
    simp only [cells_t, one_t, g6, RN, qA, qB, qC, qD, qE, qF]
    refine up_refl ({ p with ws := p.ws ++ [⟨ns.getD 0 default, ns.getD 1 default, ns.getD 2 default, ns.getD 3 default⟩] }, c5, .tsl k' v' 0, c7, ar') g1 rfl ⟨r1, ?_, ?_⟩
    ·obtain ⟨a1, a2⟩ := h2 2 c5 _ q5 (dist_symm qd56)
     obtain ⟨b1, b2⟩ := h2 2 c7 _ q7 qd67
     exact ⟨a1, by rw [List.map_append]; exact h1, b1, dist_symm a2, qd57, b2⟩
    ·have new : ∀ n ∈ Wh.nums (⟨ns.getD 0 default, ns.getD 1 default, ns.getD 2 default, ns.getD 3 default⟩ : Wh), 0 ≤ n ∧ n ≤ 999 := by
      intro n hn
      simp only [Wh.nums, List.mem_cons, List.not_mem_nil, or_false] at hn
      rcases hn with rfl | rfl | rfl | rfl <;> exact hmb _
     have app : ∀ c ∈ p.ws ++ [⟨ns.getD 0 default, ns.getD 1 default, ns.getD 2 default, ns.getD 3 default⟩], ∀ n ∈ Wh.nums c, 0 ≤ n ∧ n ≤ 999 := by
      intro c hc
      rcases List.mem_append.1 hc with hc | hc
      ·exact q_n.ws c hc
      ·rw [List.mem_singleton.1 hc]; exact new
     exact { q_n with ws := app, len := by have := q_n.len; simp only [List.length_append, List.length_cons, List.length_nil]; omega }
   ·rw [decide_eq_false e2] at hb2
    rw [if_neg e2] at r1
    simp only [hb2, RN, qA, qB, qC, qD, qE, qF]
    refine told_sc (k := 3) (many := 2) hrow (by decide) (by decide) (fun ns hns => ?_) (fun hns d hdd => ⟨by rw [hU, r1, hns], hdd⟩)
    rw [hns] at r1
    obtain ⟨hml, hmb⟩ := toldS_bd hns
    have m0 : (0 : Int) ≤ 0 ∧ Int.toNat 0 < ns.length := by rw [hml]; decide
    have m1 : (0 : Int) ≤ 1 ∧ Int.toNat 1 < ns.length := by rw [hml]; decide
    simp only [List.length_map, m0, m1, getD_map, dv_int, ev_mkSl1, DV.strip, dcells_agg, RN, qA, qB, qC, qD, qE, qF]
    refine app_rel2 q7 (by decide) rfl (by rw [List.length_map]; have := q_n.len; omega) (fun k' v' ar' h1 h2 => ?_)
    simp only [cells_t, one_t, g6, RN, qA, qB, qC, qD, qE, qF]
    refine up_refl ({ p with ms := p.ms ++ [⟨ns.getD 0 default, ns.getD 1 default⟩] }, c5, c6, .tsl k' v' 0, ar') g1 rfl ⟨r1, ?_, ?_⟩
    ·obtain ⟨a1, a2⟩ := h2 2 c5 _ q5 (dist_symm qd57)
     obtain ⟨b1, b2⟩ := h2 4 c6 _ q6 (dist_symm qd67)
     exact ⟨a1, b1, by rw [List.map_append]; exact h1, qd56, dist_symm a2, dist_symm b2⟩
    ·have new : ∀ n ∈ Ms.nums (⟨ns.getD 0 default, ns.getD 1 default⟩ : Ms), 0 ≤ n ∧ n ≤ 999 := by
      intro n hn
      simp only [Ms.nums, List.mem_cons, List.not_mem_nil, or_false] at hn
      rcases hn with rfl | rfl <;> exact hmb _
     have app : ∀ c ∈ p.ms ++ [⟨ns.getD 0 default, ns.getD 1 default⟩], ∀ n ∈ Ms.nums c, 0 ≤ n ∧ n ≤ 999 := by
      intro c hc
      rcases List.mem_append.1 hc with hc | hc
      ·exact q_n.ms c hc
      ·rw [List.mem_singleton.1 hc]; exact new
     exact { q_n with ms := app, len := by have := q_n.len; simp only [List.length_append, List.length_cons, List.length_nil]; omega }
 ·obtain ⟨p, c5, c6, c7, ar⟩ := q
  obtain ⟨r1, ⟨q5, q6, q7, qd56, qd57, qd67⟩, q_n⟩ := hix
  simp only at r1 q5 q6 q7 qd56 qd57 qd67 q_n
  rw [List.drop_length, linesS] at r1
  simp only [Int.lt_irrefl, noCs, RN, qA, qB, qC, qD, qE, qF]
  have hlen := q_n.len
  have big : ∀ n : Int, 0 ≤ n ∧ n ≤ 999 → -1000000 ≤ n ∧ n ≤ 1000000 := by intro n hn; omega
  have hsm : p.small :=
   {w := big _ (q_n.nums _ (by simp [Piece.nums])), h := big _ (q_n.nums _ (by simp [Piece.nums])), pl := big _ (q_n.nums _ (by simp [Piece.nums])), ga := big _ (q_n.nums _ (by simp [Piece.nums])), po := big _ (q_n.nums _ (by simp [Piece.nums]))
    cs := fun c hc n hn => big n (q_n.cs c hc n hn), ws := fun c hc n hn => big n (q_n.ws c hc n hn), ms := fun c hc n hn => big n (q_n.ms c hc n hn)
    lc := by omega, lw := by omega, lm := by omega }
  have htext : ∀ f5 f6 f7, Pure C F.plate_text [pdvG p f5 f6 f7] (.d (.str p.text)) [] := fun f5 f6 f7 => pure_weaken1 pdvG_weak (text_c p hsm)
  have hbt : (p.text.toList == s.toList) = decide (p.text.data.toList = s.data.toList) := by
   rw [Go.Lib.toList_data, Go.Lib.toList_data]; exact Bool.eq_iff_iff.2 (by rw [beq_iff_eq, decide_eq_true_eq])
  have hU' : parsedS s = if p.text.data.toList = s.data.toList then some p else none := by rw [hU, r1]
  obtain ⟨f5, hf5⟩ : ∃ f, f = eF c5 := ⟨_, rfl⟩
  obtain ⟨f6, hf6⟩ : ∃ f, f = eF c6 := ⟨_, rfl⟩
  obtain ⟨f7, hf7⟩ : ∃ f, f = eF c7 := ⟨_, rfl⟩
  clear qd56 qd57 qd67
  rcases q5 with ⟨rfl, z5⟩ | ⟨k5, v5, rfl, z5⟩ <;> rcases q6 with ⟨rfl, z6⟩ | ⟨k6, v6, rfl, z6⟩ <;> rcases q7 with ⟨rfl, z7⟩ | ⟨k7, v7, rfl, z7⟩
  all_goals
   simp only [eF] at hf5 hf6 hf7
   have hf5 := hf5.symm
   have hf6 := hf6.symm
   have hf7 := hf7.symm
   refine call_f (ds := [pdvG p f5 f6 f7]) (by subst hf5 hf6 hf7; simp [datumL, datum, datum0, datum0L, row_m, pdvG, allD, aggO, z5, z6, z7]) rfl (htext _ _ _) rfl ?_
   simp only [bin_str, str_eql, hbt, RN, qA, qB, qC, qD, qE, qF]
   refine sure_sc (fun e => ?_) (fun e d hdd => ⟨by rw [hU', if_neg (of_decide_eq_false e)], hdd⟩)
   simp only [allD_t, Option.map_none, aggO_none, cells_agg, cells_t, one_t, isDead_agg, isAgg_agg, RN, qA, qB, qC, qD, qE, qF]
   exact ⟨pdvG p f5 f6 f7, by subst hf5 hf6 hf7; simp [datum, datum0, datum0L, row_m, pdvG, z5, z6, z7], p, by rw [hU', if_pos (of_decide_eq_true e)], hsm, by rw [dv_Piece]; simp [pdvG, DV.strip]⟩
end Go.Tel
open Nat renaming reduceBEq → qA, reduceAdd → qB, reduceSub → qC, reduceEqDiff → qD, reduceLT → qE, reduceLeDiff → qF
namespace Go.Am
theorem pure_of_pwp_w {C : Ctx} (hm : C.P.follows .mixedOrders = true) {f : FuncId} {ds : List DV} {x : DV} {pc : PCode} {rs : List PRes} {nargs : Nat} (hn : (ds.map PV.d).length = nargs) (hc : chkFn C.P f nargs pc rs = true)
  (h : pwp C 0 0 pc (endQ rs (fun p M => ∃ y, datum M p = some y ∧ ∀ (w : World) (X : Nat → Prop) (v : Value), RepD w X v y → RepD w X v x) (fun _ _ => False)) ⟨envOf 0 (ds.map .d), noMem⟩) : Pure C f ds (.d x) [] := by
 have hsc : SC C f (ds.map .d) noMem (fun p M => ∃ y, datum M p = some y ∧ ∀ (w : World) (X : Nat → Prop) (v : Value), RepD w X v y → RepD w X v x) (fun _ _ => False) := sc_of_pwp hm hn hc h
 intro X w vals hG hl hx hr
 refine (hsc X w ⟨[], []⟩ vals (sim_none hG hl hx) (RepP.ofD (hr.weaken away_none))).mono fun e w' he => ?_
 cases e with
 | returned v =>
  obtain ⟨p, M', E', ⟨y, hd, hy⟩, h2, h3, h4⟩ := he
  have hz : okSel M' [] := ⟨fun q hq => (by cases hq), List.nodup_nil⟩
  exact ⟨v, _, rfl, sim_sel h2 hz, from_sel h3 hz, .d (hy _ _ _ ((datum_frz (ps := [p]) h2 h4 hd (by simp)).weaken fun b hb => .inl (away_none b hb)))⟩
 | panicked c =>
  obtain ⟨v, d, M', E', _, hh, _⟩ := he
  exact hh.elim
 | outgrown => exact he.elim
end Go.Am
namespace Go.Tel
open Go.Am
def zeroP : Piece := ⟨0, 0, 0, 0, 0, [], [], []⟩
def readS (s : ByteArray) : Piece × Int := if s.size > 500 then (zeroP, 3) else match parsedS s with
 | none => (zeroP, 4)
 | some p => if p.ok then (p, 0) else (zeroP, 2)
theorem tup_weak {p : Piece} {e5 e6 e7 : Bool} {d : DV} (w : World) (X : Nat → Prop) (v : Value) (h : RepD w X v (.tup [pdvG p e5 e6 e7, d])) : RepD w X v (.tup [p.dv, d]) := by
 cases h with | tup h =>
 refine .tup ?_
 generalize Array.toList _ = vs at h
 cases h with | cons h1 h =>
 exact .cons (pdvG_weak _ _ _ h1) h
set_option maxRecDepth 10000 in
set_option maxHeartbeats 4000000 in
theorem Read_c (s : ByteArray) : Pure C F.plate_Read [.str s] (.d (.tup [(readS s).1.dv, .int .i64 (readS s).2])) [] := by
 refine pure_of_pwp_w mixed rfl ok_plate_Read ?_
 simp only [pc_plate_Read, rs_plate_Read, RN, qA, qB, qC, qD, qE, qF]
 by_cases h5 : s.size > 500
 ·have b1 : (s.size : Int) > 500 := by omega
  simp only [b1, RN, qA, qB, qC, qD, qE, qF]
  exact ⟨.tup [pdvG zeroP true true true, .int .i64 3], rfl, by rw [readS, if_pos h5]; exact tup_weak⟩
 have b1 : ¬ (s.size : Int) > 500 := by omega
 simp only [b1, allD_p, Option.map_none, List.take_zero, List.drop_zero, RN, qA, qB, qC, qD, qE, qF]
 refine try_sc mixed ok_plate_try ?_
 simp only [pc_plate_try_0, RN, qA, qB, qC, qD, qE, qF]
 refine ⟨3, rfl, ?_⟩
 simp only [pc_plate_try_2, ev_callVf, RN, qA, qB, qC, qD, qE, qF]
 refine ⟨by kernel_rfl, sc_of_pwp mixed rfl ok_plate_Read_1 ?_⟩
 simp only [pc_plate_Read_1, rs_plate_Read_1, RN, qA, qB, qC, qD, qE, qF]
 have h0 : ((0 : Int) != 0) = false := rfl
 have h4 : ((4 : Int) != 0) = true := rfl
 have n1 : (T.plate_none == T.plate_locked) = false := by decide
 refine parsed_sc (by omega) (fun p hp hsm => ?_) (fun hp d hd => ?_)
 ·have hip := isPiece_c p hsm.lc hsm.lw hsm.lm
  rw [dv_Piece] at hip
  simp only [dv_Piece, tryQ_ret, pc_plate_try_1_3, ev_isNilI_n, tryEnd_normal, h0, RN, qA, qB, qC, qD, qE, qF]
  refine call_d rfl rfl hip ?_
  cases hok : p.ok
  ·simp only [RN, qA, qB, qC, qD, qE, qF]
   exact ⟨.tup [pdvG zeroP true true true, .int .i64 2], rfl, by rw [readS, if_neg h5, hp]; simp only [hok]; exact tup_weak⟩
  ·simp only [RN, qA, qB, qC, qD, qE, qF]
   exact ⟨.tup [pdvG p false false false, .int .i64 0], rfl, by rw [readS, if_neg h5, hp]; simp only [hok]; exact tup_weak⟩
 ·obtain ⟨z, rfl⟩ := hd
  simp only [tryQ_panic, pc_plate_try_1_3, ev_isNilI_i, ev_tas_eq, ev_tas_ne, n1, tryEnd_normal, h4, RN, qA, qB, qC, qD, qE, qF]
  exact ⟨.tup [pdvG zeroP true true true, .int .i64 4], rfl, by rw [readS, if_neg h5, hp]; exact tup_weak⟩
end Go.Tel
open Nat renaming reduceBEq → qA, reduceAdd → qB, reduceSub → qC, reduceEqDiff → qD, reduceLT → qE, reduceLeDiff → qF
namespace Go.Am
theorem mkSl_d {C : Ctx} {base : Nat} {M : Mem} {K : PV → Mem → Prop} {KP : DV → Mem → Prop} {sz : Nat} {zs ds xs : List DV} {is : List Nat} (h : fillS sz zs is (ds.map DV.strip) = some xs) (hK : K (.d (.slice true xs)) M) : runOp C base (.mkSl sz zs is) (ds.map .d) M K KP := by
 have h1 : datumL M (ds.map .d) = some ds := by
  clear h hK
  induction ds with
  | nil => rfl
  | cons d ds ih => simp only [List.map_cons, datumL, datum, ih]
 rw [ev_mkSl h1 h, frz_d]
 exact hK
theorem fillC_t {cs : List PV} {off n k ver s : Nat} {ps : List (Nat × Nat)} {vs : List PV} : fillC cs ((off, n) :: ps) (.tsl k ver s :: vs) = bif (1 == n) && decide (off + n ≤ cs.length) then fillC (splice cs off [.tsl k ver s]) ps vs else none := by
 have hc : PV.cells (.tsl k ver s) = [.tsl k ver s] := rfl
 simp only [fillC, PV.isDead, true_and, hc, List.length_cons, List.length_nil, Nat.zero_add]
 by_cases h1 : 1 = n
 ·by_cases h2 : off + n ≤ cs.length
  ·rw [if_pos ⟨h1, h2⟩]; simp [h1, h2]
  ·rw [if_neg (fun h => h2 h.2)]; simp [h2]
 ·rw [if_neg (fun h => h1 h.1)]
  have : ((1 : Nat) == n) = false := by simpa using h1
  rw [this]; rfl
theorem mkSlR_d {C : Ctx} {base : Nat} {bs : List (Option (List PV))} {fz : List Nat} {ar : List (Option Arr)} {K : PV → Mem → Prop} {KP : DV → Mem → Prop} {sz : Nat} {zs ds xs : List DV} {is : List Nat} (h : fillS sz zs is (ds.map DV.strip) = some xs) (h1 : 0 < sz) (h2 : ∀ x ∈ xs, x.fits sz = true)
  (hK : K (.tsl ar.length 0 0) ⟨bs, fz, ar ++ [some ⟨sz, xs, 0, 1⟩]⟩) : runOp C base (.mkSlR sz zs is) (ds.map .d) ⟨bs, fz, ar⟩ K KP := by
 have ha : allD (ds.map PV.d) = some ds := by
  clear h hK
  induction ds with
  | nil => rfl
  | cons d ds ih => simp only [List.map_cons, allD, ih, Option.map_some]
 simp only [runOp, ha, h]
 exact ⟨h1, h2, hK⟩
end Go.Am
namespace Go.Tel
open Go.Am
def lawP : Piece := ⟨60, 50, 1, 1, 2, [⟨15, 20⟩, ⟨35, 20⟩, ⟨35, 36⟩], [⟨0, 0, 0, 12⟩, ⟨1, 0, 0, 8⟩, ⟨1, 0, 1, 10⟩, ⟨2, 0, 1, 6⟩], [⟨0, 1⟩, ⟨2, 3⟩]⟩
def lawR : Piece := { lawP with ms := [⟨0, 1⟩] }
def lawD : Dvd := ⟨40, [15, 21, 27]⟩
set_option maxRecDepth 10000 in
theorem P_c : Pure C F.law_P [] (.d lawP.dv) [] := by
 refine pure_of_pwp_fs mixed rfl ok_law_P ?_
 simp only [pc_law_P, rs_law_P, RN, qA, qB, qC, qD, qE, qF]
 refine mkSl_d (ds := [_, _, _]) rfl ?_
 simp only [RN, qA, qB, qC, qD, qE, qF]
 refine mkSlR_d (ds := [_, _, _, _]) rfl (by decide) (by decide) ?_
 simp only [RN, qA, qB, qC, qD, qE, qF]
 refine mkSl_d (ds := [_, _]) rfl ?_
 simp only [fillC_t, allD_t, Option.map_none, aggO_none, cells_agg, isDead_agg, one_t, DV.strip, RN, qA, qB, qC, qD, qE, qF]
 exact ⟨_, rfl, by rw [dv_Piece]; rfl⟩
set_option maxRecDepth 10000 in
theorem D_c : Pure C F.law_D [] (.d lawD.dv) [] := by
 refine pure_of_pwp_fs mixed rfl ok_law_D ?_
 simp only [pc_law_D, rs_law_D, RN, qA, qB, qC, qD, qE, qF]
 refine mkSl_d (ds := [_, _, _]) rfl ?_
 simp only [RN, qA, qB, qC, qD, qE, qF]
 exact ⟨_, rfl, by rw [dv_Dvd]; rfl⟩
set_option maxRecDepth 10000 in
theorem R_c : Pure C F.law_R [] (.d lawR.dv) [] := by
 have hp := P_c
 rw [dv_Piece] at hp
 have i0 : (0 : Int) ≤ 1 := by decide
 refine pure_of_pwp_fs mixed rfl ok_law_R ?_
 simp only [pc_law_R, rs_law_R, RN, qA, qB, qC, qD, qE, qF]
 refine call_d rfl rfl hp ?_
 simp only [RN, qA, qB, qC, qD, qE, qF]
 rw [ev_slcD_hi (mss_sz _) (by decide) (by decide)]
 simp only [RN, qA, qB, qC, qD, qE, qF]
 exact ⟨_, rfl, by rw [dv_Piece]; rfl⟩
def Piece.short (p : Piece) : Bool := decide (p.cs.length ≤ 8) && decide (p.ws.length ≤ 10) && decide (p.ms.length ≤ 13)
set_option maxRecDepth 10000 in
theorem short_c (p : Piece) : Pure C F.law_short [p.dv] (.d (.bool p.short)) [] := by
 refine pure_of_pwp_d mixed rfl ok_law_short ?_
 simp only [pc_law_short, rs_law_short, dv_Piece, List.length_map, RN, qA, qB, qC, qD, qE, qF]
 by_cases h1 : p.cs.length ≤ 8
 case neg =>
  have b1 : ¬ (p.cs.length : Int) ≤ 8 := by omega
  simp only [b1, RN, qA, qB, qC, qD, qE, qF]
  simp [Piece.short, h1]
 have b1 : (p.cs.length : Int) ≤ 8 := by omega
 by_cases h2 : p.ws.length ≤ 10
 case neg =>
  have b2 : ¬ (p.ws.length : Int) ≤ 10 := by omega
  simp only [b1, b2, List.length_map, RN, qA, qB, qC, qD, qE, qF]
  simp [Piece.short, h1, h2]
 have b2 : (p.ws.length : Int) ≤ 10 := by omega
 by_cases h3 : p.ms.length ≤ 13
 case neg =>
  have b3 : ¬ (p.ms.length : Int) ≤ 13 := by omega
  simp only [b1, b2, b3, List.length_map, RN, qA, qB, qC, qD, qE, qF]
  simp [Piece.short, h1, h2, h3]
 have b3 : (p.ms.length : Int) ≤ 13 := by omega
 simp only [b1, b2, b3, List.length_map, RN, qA, qB, qC, qD, qE, qF]
 simp [Piece.short, h1, h2, h3]
end Go.Tel
open Nat renaming reduceBEq → qA, reduceAdd → qB, reduceSub → qC, reduceEqDiff → qD, reduceLT → qE, reduceLeDiff → qF
namespace Go.Tel
open Go.Am
theorem drop_eq_step {α : Type} [Inhabited α] [DecidableEq α] {a b : List α} {i : Nat} (ha : i < a.length) (hb : i < b.length) : decide (a.drop i = b.drop i) = (decide (a.getD i default = b.getD i default) && decide (a.drop (i + 1) = b.drop (i + 1))) := by
 rw [drop_cons ha, drop_cons hb]
 by_cases h : a.getD i default = b.getD i default
 ·rw [h]; simp
 ·rw [decide_eq_false h, Bool.false_and]
  exact decide_eq_false (fun hh => h (List.cons.inj hh).1)
set_option maxRecDepth 10000 in
theorem Same_c (a b : List Int) (ha : a.length ≤ 1000000) : Pure C F.ref_Same [.slice false (a.map intDV), .slice false (b.map intDV)] (.d (.bool (decide (a = b)))) [] := by
 refine pure_of_pwp_d mixed rfl ok_ref_Same ?_
 simp only [pc_ref_Same, rs_ref_Same, List.length_map, RN, qA, qB, qC, qD, qE, qF]
 by_cases hl : a.length = b.length
 case neg =>
  have b1 : ((a.length : Int) != (b.length : Int)) = true := by rw [bne, beq_eq_false_iff_ne.2 (by omega)]; rfl
  simp only [b1, RN, qA, qB, qC, qD, qE, qF]
  rw [decide_eq_false (fun h => hl (by rw [h]))]
 have b1 : ((a.length : Int) != (b.length : Int)) = false := by rw [bne, beq_iff_eq.2 (by omega)]; rfl
 simp only [b1, RN, qA, qB, qC, qD, qE, qF]
 refine pwp_range a.length (fun i (_ : Unit) => ⟨[(0, .d (.slice false (a.map intDV))), (1, .d (.slice false (b.map intDV))), (5, .d (.int .i64 i))], ⟨[], [], []⟩⟩)
  (fun i _ => decide (a = b) = decide (a.drop i = b.drop i)) 0 () (Nat.zero_le _) rfl (by simp) (fun i _ g1 hix => ?_) (fun _ hix => ?_)
 ·obtain ⟨g2, g3, g6⟩ := rng g1 ha
  have g1' : i < b.length := by omega
  rw [drop_eq_step g1 g1'] at hix
  by_cases he : a.getD i default = b.getD i default
  ·have e1 : (a.getD i default != b.getD i default) = false := by rw [bne, beq_iff_eq.2 he]; rfl
   rw [decide_eq_true he, Bool.true_and] at hix
   simp only [List.length_map, g2, g3, g1, g1', Int.toNat_natCast, getD_map, dv_int, e1, g6, RN, qA, qB, qC, qD, qE, qF]
   exact up_same () g1 rfl hix (by simp) (by simp) rfl rfl
  ·have e1 : (a.getD i default != b.getD i default) = true := by rw [bne, beq_eq_false_iff_ne.2 he]; rfl
   rw [decide_eq_false he, Bool.false_and] at hix
   simp only [List.length_map, g2, g3, g1, g1', Int.toNat_natCast, getD_map, dv_int, e1, RN, qA, qB, qC, qD, qE, qF]
   rw [hix]
 ·rw [List.drop_length, hl, List.drop_length] at hix
  simp only [Int.lt_irrefl, List.length_map, RN, qA, qB, qC, qD, qE, qF]
  rw [hix]; rfl
set_option maxRecDepth 10000 in
theorem SameTurns_c (a b : List Tn) (ha : a.length ≤ 1000000) : Pure C F.ref_SameTurns [.slice false (a.map Tn.dv), .slice false (b.map Tn.dv)] (.d (.bool (decide (a = b)))) [] := by
 refine pure_of_pwp_d mixed rfl ok_ref_SameTurns ?_
 simp only [pc_ref_SameTurns, rs_ref_SameTurns, List.length_map, RN, qA, qB, qC, qD, qE, qF]
 by_cases hl : a.length = b.length
 case neg =>
  have b1 : ((a.length : Int) != (b.length : Int)) = true := by rw [bne, beq_eq_false_iff_ne.2 (by omega)]; rfl
  simp only [b1, RN, qA, qB, qC, qD, qE, qF]
  rw [decide_eq_false (fun h => hl (by rw [h]))]
 have b1 : ((a.length : Int) != (b.length : Int)) = false := by rw [bne, beq_iff_eq.2 (by omega)]; rfl
 simp only [b1, RN, qA, qB, qC, qD, qE, qF]
 refine pwp_range a.length (fun i (_ : Unit) => ⟨[(0, .d (.slice false (a.map Tn.dv))), (1, .d (.slice false (b.map Tn.dv))), (5, .d (.int .i64 i))], ⟨[], [], []⟩⟩)
  (fun i _ => decide (a = b) = decide (a.drop i = b.drop i)) 0 () (Nat.zero_le _) rfl (by simp) (fun i _ g1 hix => ?_) (fun _ hix => ?_)
 ·obtain ⟨g2, g3, g6⟩ := rng g1 ha
  have g1' : i < b.length := by omega
  rw [drop_eq_step g1 g1'] at hix
  by_cases he : a.getD i default = b.getD i default
  ·rw [decide_eq_true he, Bool.true_and] at hix
   simp only [List.length_map, g2, g3, g1, g1', Int.toNat_natCast, getD_map, dv_Tn, RN, qA, qB, qC, qD, qE, qF]
   rw [ev_binA (cellsEq_tn _ _), decide_eq_true he]
   have e1 : (true != true) = false := rfl
   simp only [e1, g6, RN, qA, qB, qC, qD, qE, qF]
   exact up_same () g1 rfl hix (by simp) (by simp) rfl rfl
  ·rw [decide_eq_false he, Bool.false_and] at hix
   simp only [List.length_map, g2, g3, g1, g1', Int.toNat_natCast, getD_map, dv_Tn, RN, qA, qB, qC, qD, qE, qF]
   rw [ev_binA (cellsEq_tn _ _), decide_eq_false he]
   have e1 : (false != true) = true := rfl
   simp only [e1, RN, qA, qB, qC, qD, qE, qF]
   rw [hix]
 ·rw [List.drop_length, hl, List.drop_length] at hix
  simp only [Int.lt_irrefl, List.length_map, RN, qA, qB, qC, qD, qE, qF]
  rw [hix]; rfl
set_option maxRecDepth 10000 in
theorem rWheel_c (p : Piece) (n : Int) (hl : p.ws.length ≤ 1000000) : Pure C F.ref_Wheel [p.dv, .int .i64 n] (.d (.bool (inR n 0 (p.ws.length - 1)))) [] := by
 have w1 : IntKind.i64.wrap ((p.ws.length : Int) - 1) = (p.ws.length : Int) - 1 := w64_in (by omega)
 refine pure_of_pwp_d mixed rfl ok_ref_Wheel ?_
 simp only [pc_ref_Wheel, rs_ref_Wheel, dv_Piece, List.length_map, w1, RN, qA, qB, qC, qD, qE, qF]
 refine call_d rfl rfl (rin_c _ _ _) ?_
 simp only [RN, qA, qB, qC, qD, qE, qF]
end Go.Tel
open Nat renaming reduceBEq → qA, reduceAdd → qB, reduceSub → qC, reduceEqDiff → qD, reduceLT → qE, reduceLeDiff → qF
namespace Go.Am
theorem ev_b2s {C : Ctx} {base : Nat} {M : Mem} {K : PV → Mem → Prop} {KP : DV → Mem → Prop} {xs : List DV} {l : List UInt8} {ex : Bool} (h : bytesOf xs = some l) (hK : K (.d (.str ⟨l.toArray⟩)) M) : runOp C base .b2s [.d (.slice ex xs)] M K KP := by
 simp only [runOp, appd, h]
 exact hK
end Go.Am
namespace Go.Tel
open Go.Am
def digB (d : Nat) : ByteArray := ⟨#[UInt8.ofNat (48 + d)]⟩
def decGo : Nat → Nat → ByteArray → ByteArray
 | 0, _, s => s
 | k + 1, n, s => if 10 ≤ n then decGo k (n / 10) (digB (n / 10 % 10) ++ s) else s
def decS (n : Nat) : ByteArray := decGo n n (digB (n % 10))
theorem dig_bytes {d : Nat} (h : d < 10) : bytesOf [.int .u8 ((48 + d : Nat) : Int)] = some [UInt8.ofNat (48 + d)] := by
 exact (by decide : ∀ d < 10, bytesOf [.int .u8 ((48 + d : Nat) : Int)] = some [UInt8.ofNat (48 + d)]) d h
theorem u8_dig {n : Nat} : IntKind.u8.wrap (IntKind.i64.wrap (48 + ((n % 10 : Nat) : Int))) = ((48 + n % 10 : Nat) : Int) := by
 have h : n % 10 < 10 := Nat.mod_lt _ (by decide)
 generalize n % 10 = d at h
 exact (by decide : ∀ d < 10, IntKind.u8.wrap (IntKind.i64.wrap (48 + ((d : Nat) : Int))) = ((48 + d : Nat) : Int)) d h
set_option maxRecDepth 10000 in
theorem Decimal_c (n : Nat) (hn : n ≤ 1000000) : Pure C F.ref_Decimal [.int .i64 n] (.d (.str (decS n))) [] := by
 have t1 : ∀ m : Nat, (m : Int).tmod 10 = ((m % 10 : Nat) : Int) := fun m => (Int.ofNat_tmod m 10).symm
 have t2 : ∀ m : Nat, (m : Int).tdiv 10 = ((m / 10 : Nat) : Int) := fun m => (Int.ofNat_tdiv m 10).symm
 have z : (10 : Int) ≠ 0 := by decide
 refine pure_of_pwp_d mixed rfl ok_ref_Decimal ?_
 simp only [pc_ref_Decimal, rs_ref_Decimal, t1, z, u8_dig, ev_mkSl1, DV.strip, dcells_int, RN, qA, qB, qC, qD, qE, qF]
 refine ev_b2s (dig_bytes (Nat.mod_lt _ (by decide))) ?_
 refine pwp_while (fun (q : Nat × Nat × ByteArray) => ⟨[(0, .d (.int .i64 q.2.1)), (3, .d (.str q.2.2))], ⟨[], [], []⟩⟩)
  (fun q => decS n = decGo q.1 q.2.1 q.2.2 ∧ q.2.1 ≤ q.1 ∧ q.2.2.size + q.1 ≤ n + 1) (fun q => q.1) (n, n, digB (n % 10)) rfl ⟨rfl, Nat.le_refl _, by simp [digB, ByteArray.size]; omega⟩ (fun q hq => ?_)
 obtain ⟨k, m, t⟩ := q
 obtain ⟨q1, q2, q3⟩ := hq
 simp only at q1 q2 q3
 by_cases hm : 10 ≤ m
 ·obtain ⟨k, rfl⟩ : ∃ k', k = k' + 1 := ⟨k - 1, by omega⟩
  rw [decGo, if_pos hm] at q1
  have b1 : (m : Int) ≥ 10 := by omega
  have w1 : IntKind.i64.wrap ((m / 10 : Nat) : Int) = ((m / 10 : Nat) : Int) := w64_in (by omega)
  simp only [b1, t1, t2, w1, z, u8_dig, ev_mkSl1, DV.strip, dcells_int, RN, qA, qB, qC, qD, qE, qF]
  refine ev_b2s (dig_bytes (Nat.mod_lt _ (by decide))) ?_
  have hd : (⟨[UInt8.ofNat (48 + m / 10 % 10)].toArray⟩ : ByteArray) = digB (m / 10 % 10) := rfl
  have hd1 : (digB (m / 10 % 10)).size = 1 := rfl
  rw [hd]
  simp only [bin_str, str_add, RN, qA, qB, qC, qD, qE, qF]
  refine ⟨by omega, ?_⟩
  exact wh_same (a := (k + 1, m, t)) (μ := fun q => q.1) (k, m / 10, digB (m / 10 % 10) ++ t) (Nat.lt_succ_self _) rfl ⟨q1, by simp only; omega, by simp only [ByteArray.size_append]; omega⟩ (by simp) (by simp) rfl rfl
 ·have b1 : ¬ (m : Int) ≥ 10 := by omega
  have hg : decGo k m t = t := by cases k with
   | zero => rfl
   | succ k => rw [decGo, if_neg hm]
  simp only [b1, RN, qA, qB, qC, qD, qE, qF]
  rw [q1, hg]
theorem decGo_size : ∀ (k n : Nat) (s : ByteArray), (decGo k n s).size ≤ s.size + k
 | 0, _, s => Nat.le_refl _
 | k + 1, n, s => by
  rw [decGo]
  split
  ·have := decGo_size k (n / 10) (digB (n / 10 % 10) ++ s)
   have h1 : (digB (n / 10 % 10)).size = 1 := rfl
   rw [ByteArray.size_append] at this
   omega
  ·omega
theorem decS_size (n : Nat) : (decS n).size ≤ n + 1 := by
 have := decGo_size n n (digB (n % 10))
 have h1 : (digB (n % 10)).size = 1 := rfl
 rw [decS]; omega
def addWords (out : ByteArray) : List Int → ByteArray
 | [] => out
 | n :: l => addWords (out ++ ⟨#[32]⟩ ++ decS n.toNat) l
theorem addWords_size : ∀ (l : List Int) (out : ByteArray), (∀ n ∈ l, 0 ≤ n ∧ n ≤ 1000) → (addWords out l).size ≤ out.size + 1002 * l.length
 | [], out, _ => by simp [addWords]
 | n :: l, out, h => by
  have h1 := addWords_size l (out ++ ⟨#[32]⟩ ++ decS n.toNat) (fun x hx => h x (List.mem_cons_of_mem _ hx))
  have h2 := decS_size n.toNat
  have h3 : (⟨#[32]⟩ : ByteArray).size = 1 := rfl
  have h4 := h n List.mem_cons_self
  simp only [ByteArray.size_append] at h1
  rw [addWords, List.length_cons]
  omega
set_option maxRecDepth 10000 in
theorem rwords_c (l : List Int) (hl : l.length ≤ 10) (hb : ∀ n ∈ l, 0 ≤ n ∧ n ≤ 1000) : Pure C F.ref_words [.slice false (l.map intDV)] (.d (.str (addWords ⟨#[]⟩ l))) [] := by
 refine pure_of_pwp_d mixed rfl ok_ref_words ?_
 simp only [pc_ref_words, rs_ref_words, RN, qA, qB, qC, qD, qE, qF]
 refine pwp_range l.length (fun i (out : ByteArray) => ⟨[(0, .d (.slice false (l.map intDV))), (3, .d (.str out)), (4, .d (.int .i64 i))], ⟨[], [], []⟩⟩)
  (fun i out => addWords ⟨#[]⟩ l = addWords out (l.drop i) ∧ out.size ≤ 1002 * i) 0 ⟨#[]⟩ (Nat.zero_le _) rfl ⟨rfl, Nat.le_refl _⟩ (fun i out g1 hix => ?_) (fun out hix => ?_)
 ·obtain ⟨r1, r2⟩ := hix
  obtain ⟨g2, g3, g6⟩ := rng g1 (by omega)
  rw [drop_cons g1, addWords] at r1
  have hn := hb _ (getD_mem g1)
  have h32 : (⟨#[32]⟩ : ByteArray).size = 1 := rfl
  obtain ⟨m, hm⟩ := Int.eq_ofNat_of_zero_le hn.1
  have hmd := decS_size m
  simp only [List.length_map, g2, g3, g1, Int.toNat_natCast, getD_map, dv_int, bin_str, str_add, RN, qA, qB, qC, qD, qE, qF]
  refine ⟨by omega, ?_⟩
  rw [hm] at r1 hn ⊢
  refine call_d rfl rfl (Decimal_c m (by omega)) ?_
  rw [Int.toNat_natCast] at r1
  simp only [bin_str, str_add, g6, RN, qA, qB, qC, qD, qE, qF]
  refine ⟨by rw [ByteArray.size_append]; omega, ?_⟩
  exact up_same (out ++ ⟨#[32]⟩ ++ decS m) g1 rfl ⟨r1, by simp only [ByteArray.size_append]; omega⟩ (by simp) (by simp) rfl rfl
 ·obtain ⟨r1, r2⟩ := hix
  rw [List.drop_length, addWords] at r1
  simp only [Int.lt_irrefl, List.length_map, RN, qA, qB, qC, qD, qE, qF]
  rw [r1]
end Go.Tel
