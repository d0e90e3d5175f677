/-
  Part 19 of the proof of a law of plates: an abstract machine over the model, contracts of functions, plain laws.
  Conditions: none.
-/
import Derived.Test.YticjmjdcggomgaaGreatDoorM18
set_option linter.all false
open Nat renaming reduceBEq → qA, reduceAdd → qB, reduceSub → qC, reduceEqDiff → qD, reduceLT → qE, reduceLeDiff → qF
namespace Go.Tel
open Go.Am
def idx {α : Type} [DecidableEq α] (v : α) : List α → Nat → Int
 | [], _ => -1
 | x :: xs, i => if v = x then i else idx v xs (i + 1)
theorem idx_ge {α : Type} [DecidableEq α] (v : α) : ∀ (xs : List α) (i : Nat), decide (idx v xs i ≥ 0) = xs.contains v
 | [], i => by simp [idx]
 | x :: xs, i => by
  simp only [idx, List.contains_cons]
  by_cases h : v = x
  ·simp [h]
  ·simp only [h, if_false, idx_ge v xs (i + 1)]
   simp [h]
theorem ev_binA2 {base : Nat} {M : Mem} {K : PV → Mem → Prop} {KP : DV → Mem → Prop} {C : Ctx} {neq : Bool} {a b c d : Int} : runOp C base (.binA neq [1, 1]) [.d (.agg [.int .i64 a, .int .i64 b]), .d (.agg [.int .i64 c, .int .i64 d])] M K KP = K (.d (.bool (((a == c) && (b == d)) != neq))) M := by
 rw [ev_binA (t := (a == c) && (b == d))]; simp [cellsEq]
theorem ev_binA3 {base : Nat} {M : Mem} {K : PV → Mem → Prop} {KP : DV → Mem → Prop} {C : Ctx} {neq : Bool} {a b c d e f : Int} : runOp C base (.binA neq [1, 1, 1]) [.d (.agg [.int .i64 a, .int .i64 b, .int .i64 c]), .d (.agg [.int .i64 d, .int .i64 e, .int .i64 f])] M K KP = K (.d (.bool (((a == d) && ((b == e) && (c == f))) != neq))) M := by
 rw [ev_binA (t := (a == d) && ((b == e) && (c == f)))]; simp [cellsEq]
theorem bne_f {b : Bool} : (b != false) = b := by cases b <;> rfl
theorem bne_t {b : Bool} : (b != true) = !b := by cases b <;> rfl
theorem pt_eq {v x : Pt} : ((v.x == x.x) && (v.y == x.y)) = decide (v = x) := by
 cases v; cases x; simp only [Pt.mk.injEq, Bool.decide_and]; rfl
theorem ms_eq {v x : Ms} : ((v.a == x.a) && (v.b == x.b)) = decide (v = x) := by
 cases v; cases x; simp only [Ms.mk.injEq, Bool.decide_and]; rfl
theorem w64_succ {i : Nat} (h : i ≤ 1000000) : IntKind.i64.wrap ((i : Int) + 1) = ((i + 1 : Nat) : Int) := by
 rw [Go.IntWalk.i64_in _ (by omega)]; omega
set_option maxRecDepth 10000 in
theorem in_c (n l h : Int) : Pure C F.plate_in [.int .i64 n, .int .i64 l, .int .i64 h] (.d (.bool (inR n l h))) [] := by
 refine pure_of_pwp_d mixed rfl ok_plate_in ?_
 by_cases h1 : n ≥ l <;> simp only [h1, inR, pc_plate_in, rs_plate_in, Bool.false_and, RN, qA, qB, qC, qD, qE, qF]
set_option maxRecDepth 10000 in
theorem rin_c (n l h : Int) : Pure C F.ref_in [.int .i64 n, .int .i64 l, .int .i64 h] (.d (.bool (inR n l h))) [] := by
 refine pure_of_pwp_d mixed rfl ok_ref_in ?_
 by_cases h1 : n ≥ l <;> simp only [h1, inR, pc_ref_in, rs_ref_in, Bool.false_and, RN, qA, qB, qC, qD, qE, qF]
set_option maxRecDepth 10000 in
theorem indexPt_c (xs : List Pt) (v : Pt) (hl : xs.length ≤ 1000000) : Pure C F.slices_Index_api_PlatePoint [.slice false (xs.map Pt.dv), v.dv] (.d (.int .i64 (idx v xs 0))) [] := by
 refine pure_of_pwp_d mixed rfl ok_slices_Index_api_PlatePoint ?_
 simp only [pc_slices_Index_api_PlatePoint, rs_slices_Index_api_PlatePoint, dv_Pt, List.length_map, RN, qA, qB, qC, qD, qE, qF]
 refine pwp_range xs.length (fun i (_ : Unit) => ⟨[(0, .d (.slice false (xs.map Pt.dv))), (3, .d (.cptr [.int .i64 v.x, .int .i64 v.y])), (7, .d (.int .i64 xs.length)), (8, .d (.int .i64 i))], ⟨[some [.d (.int .i64 v.x), .d (.int .i64 v.y)]], [0], []⟩⟩) (fun i _ => idx v xs 0 = idx v (xs.drop i) i) 0 () (Nat.zero_le _) rfl rfl (fun i _ h1 hix => ?_) (fun _ hix => ?_)
 ·obtain ⟨h2, h3, h6⟩ := rng h1 hl
  rw [drop_cons h1, idx] at hix
  cases h4 : decide (v = xs.getD i default)
  ·simp only [h2, h3, h1, h6, h4, dv_Pt, ev_binA2, pt_eq, bne_f, getD_map, Int.toNat_natCast, List.length_map, RN, qA, qB, qC, qD, qE, qF]
   exact up_same () h1 rfl (by rw [if_neg (by simpa using h4)] at hix; exact hix) (by simp) (by simp) rfl rfl
  ·simp only [h2, h3, h1, h4, dv_Pt, ev_binA2, pt_eq, bne_f, getD_map, Int.toNat_natCast, List.length_map, RN, qA, qB, qC, qD, qE, qF]
   rw [hix, if_pos (by simpa using h4)]
 ·rw [List.drop_length, idx] at hix
  simp only [Int.lt_irrefl, hix, RN, qA, qB, qC, qD, qE, qF]
set_option maxRecDepth 10000 in
theorem containsPt_c (xs : List Pt) (v : Pt) (hl : xs.length ≤ 1000000) : Pure C F.slices_Contains_api_PlatePoint [.slice false (xs.map Pt.dv), v.dv] (.d (.bool (xs.contains v))) [] := by
 have hi := indexPt_c xs v hl
 refine pure_of_pwp_d mixed rfl ok_slices_Contains_api_PlatePoint ?_
 simp only [dv_Pt] at hi ⊢
 simp only [pc_slices_Contains_api_PlatePoint, rs_slices_Contains_api_PlatePoint, RN, qA, qB, qC, qD, qE, qF]
 refine call_d rfl rfl hi ?_
 simp only [idx_ge, RN, qA, qB, qC, qD, qE, qF]
set_option maxRecDepth 10000 in
theorem indexMs_c (xs : List Ms) (v : Ms) (hl : xs.length ≤ 1000000) : Pure C F.slices_Index_api_PlateMesh [.slice false (xs.map Ms.dv), v.dv] (.d (.int .i64 (idx v xs 0))) [] := by
 refine pure_of_pwp_d mixed rfl ok_slices_Index_api_PlateMesh ?_
 simp only [pc_slices_Index_api_PlateMesh, rs_slices_Index_api_PlateMesh, dv_Ms, List.length_map, RN, qA, qB, qC, qD, qE, qF]
 refine pwp_range xs.length (fun i (_ : Unit) => ⟨[(0, .d (.slice false (xs.map Ms.dv))), (3, .d (.cptr [.int .i64 v.a, .int .i64 v.b])), (7, .d (.int .i64 xs.length)), (8, .d (.int .i64 i))], ⟨[some [.d (.int .i64 v.a), .d (.int .i64 v.b)]], [0], []⟩⟩) (fun i _ => idx v xs 0 = idx v (xs.drop i) i) 0 () (Nat.zero_le _) rfl rfl (fun i _ h1 hix => ?_) (fun _ hix => ?_)
 ·obtain ⟨h2, h3, h6⟩ := rng h1 hl
  rw [drop_cons h1, idx] at hix
  cases h4 : decide (v = xs.getD i default)
  ·simp only [h2, h3, h1, h6, h4, dv_Ms, ev_binA2, ms_eq, bne_f, getD_map, Int.toNat_natCast, List.length_map, RN, qA, qB, qC, qD, qE, qF]
   exact up_same () h1 rfl (by rw [if_neg (by simpa using h4)] at hix; exact hix) (by simp) (by simp) rfl rfl
  ·simp only [h2, h3, h1, h4, dv_Ms, ev_binA2, ms_eq, bne_f, getD_map, Int.toNat_natCast, List.length_map, RN, qA, qB, qC, qD, qE, qF]
   rw [hix, if_pos (by simpa using h4)]
 ·rw [List.drop_length, idx] at hix
  simp only [Int.lt_irrefl, hix, RN, qA, qB, qC, qD, qE, qF]
set_option maxRecDepth 10000 in
theorem containsMs_c (xs : List Ms) (v : Ms) (hl : xs.length ≤ 1000000) : Pure C F.slices_Contains_api_PlateMesh [.slice false (xs.map Ms.dv), v.dv] (.d (.bool (xs.contains v))) [] := by
 have hi := indexMs_c xs v hl
 refine pure_of_pwp_d mixed rfl ok_slices_Contains_api_PlateMesh ?_
 simp only [dv_Ms] at hi ⊢
 simp only [pc_slices_Contains_api_PlateMesh, rs_slices_Contains_api_PlateMesh, RN, qA, qB, qC, qD, qE, qF]
 refine call_d rfl rfl hi ?_
 simp only [idx_ge, RN, qA, qB, qC, qD, qE, qF]
set_option maxRecDepth 10000 in
theorem indexInt_c (xs : List Int) (v : Int) (hl : xs.length ≤ 1000000) : Pure C F.slices_Index_int [.slice false (xs.map intDV), .int .i64 v] (.d (.int .i64 (idx v xs 0))) [] := by
 refine pure_of_pwp_d mixed rfl ok_slices_Index_int ?_
 simp only [pc_slices_Index_int, rs_slices_Index_int, dv_int, List.length_map, RN, qA, qB, qC, qD, qE, qF]
 refine pwp_range xs.length (fun i (_ : Unit) => ⟨[(0, .d (.slice false (xs.map intDV))), (1, .d (.int .i64 v)), (7, .d (.int .i64 xs.length)), (8, .d (.int .i64 i))], ⟨[], [], []⟩⟩) (fun i _ => idx v xs 0 = idx v (xs.drop i) i) 0 () (Nat.zero_le _) rfl rfl (fun i _ h1 hix => ?_) (fun _ hix => ?_)
 ·obtain ⟨h2, h3, h6⟩ := rng h1 hl
  rw [drop_cons h1, idx] at hix
  cases h4 : (v == xs.getD i default)
  ·simp only [h2, h3, h1, h6, h4, dv_int, getD_map, Int.toNat_natCast, List.length_map, RN, qA, qB, qC, qD, qE, qF]
   exact up_same () h1 rfl (by rw [if_neg (by simpa using h4)] at hix; exact hix) (by simp) (by simp) rfl rfl
  ·simp only [h2, h3, h1, h4, dv_int, getD_map, Int.toNat_natCast, List.length_map, RN, qA, qB, qC, qD, qE, qF]
   rw [hix, if_pos (by simpa using h4)]
 ·rw [List.drop_length, idx] at hix
  simp only [Int.lt_irrefl, hix, RN, qA, qB, qC, qD, qE, qF]
set_option maxRecDepth 10000 in
theorem containsInt_c (xs : List Int) (v : Int) (hl : xs.length ≤ 1000000) : Pure C F.slices_Contains_int [.slice false (xs.map intDV), .int .i64 v] (.d (.bool (xs.contains v))) [] := by
 have hi := indexInt_c xs v hl
 refine pure_of_pwp_d mixed rfl ok_slices_Contains_int ?_
 simp only [pc_slices_Contains_int, rs_slices_Contains_int, RN, qA, qB, qC, qD, qE, qF]
 refine call_d rfl rfl hi ?_
 simp only [idx_ge, RN, qA, qB, qC, qD, qE, qF]
set_option maxRecDepth 10000 in
theorem isWheel_c (p : Piece) (n : Int) (hl : p.ws.length ≤ 1000000) : Pure C F.plate_isWheel [p.dv, .int .i64 n] (.d (.bool (inR n 0 (p.ws.length - 1)))) [] := by
 refine pure_of_pwp_d mixed rfl ok_plate_isWheel ?_
 have h : IntKind.i64.wrap ((p.ws.length : Int) - 1) = p.ws.length - 1 := w64_in (by omega)
 simp only [pc_plate_isWheel, rs_plate_isWheel, dv_Piece, List.length_map, h, RN, qA, qB, qC, qD, qE, qF]
 refine call_d rfl rfl (in_c _ _ _) ?_
 simp only [RN, qA, qB, qC, qD, qE, qF]
set_option maxRecDepth 10000 in
theorem isPiece_1_c (p : Piece) (w : Wh) (hl : p.cs.length ≤ 1000000) : Pure C F.plate_isPiece_1 [w.dv, .cptr [.int .i64 p.w, .int .i64 p.h, .int .i64 p.pl, .int .i64 p.ga, .int .i64 p.po, .slice false (p.cs.map Pt.dv), .slice false (p.ws.map Wh.dv), .slice false (p.ms.map Ms.dv)]] (.d (.bool (!whOk p.cs.length w))) [] := by
 refine pure_of_pwp_d mixed rfl ok_plate_isPiece_1 ?_
 have h : IntKind.i64.wrap ((p.cs.length : Int) - 1) = p.cs.length - 1 := w64_in (by omega)
 simp only [pc_plate_isPiece_1, rs_plate_isPiece_1, dv_Wh, List.length_map, h, RN, qA, qB, qC, qD, qE, qF]
 repeat' first
  | (refine call_d rfl rfl (in_c _ _ _) ?_; try simp only [RN, qA, qB, qC, qD, qE, qF])
  | (refine guard_split (by rfl) (fun hB => ?_) (fun hB => ?_) <;> simp only [hB, RN, qA, qB, qC, qD, qE, qF])
  | (refine cond_split (by rfl) (fun hB => ?_) (fun hB => ?_) <;> simp only [hB, RN, qA, qB, qC, qD, qE, qF])
 all_goals simp_all [whOk]
def PredIs (C : Ctx) {α : Type} (dv : α → DV) (fn : FuncId) (caps : List DV) (p : α → Bool) : Prop := callable C.P fn = true ∧ ∀ x, Pure C fn ((dv x).strip :: caps) (.d (.bool (p x))) []
def idxF {α : Type} (p : α → Bool) : List α → Nat → Int
 | [], _ => -1
 | x :: xs, i => if p x then i else idxF p xs (i + 1)
theorem idxF_ge {α : Type} (p : α → Bool) : ∀ (xs : List α) (i : Nat), decide (idxF p xs i ≥ 0) = xs.any p
 | [], i => by simp [idxF]
 | x :: xs, i => by
  simp only [idxF, List.any_cons]
  by_cases h : p x = true
  ·simp [h]
  ·have h' : p x = false := by simpa using h
   have := idxF_ge p xs (i + 1)
   simpa [h'] using this
theorem callV_d {C : Ctx} {base : Nat} {M : Mem} {K : PV → Mem → Prop} {KP : DV → Mem → Prop} {f : FuncId} {fs cs ds ds' : List DV} {args : List PV} {x : DV} (h1 : allD args = some ds) (hc : callable C.P f = true) (h2 : (fs ++ ds ++ cs).map DV.strip = ds') (hp : Pure C f ds' (.d x) []) (hK : K (.d x) M) :
  runOp C base .callV (.d (.func (.func f) fs cs) :: args) M K KP := by
 refine ⟨hc, sc_of_runPure (runPure_of_D ⟨fs ++ ds ++ cs, ?_, x, h2 ▸ hp, hK⟩)⟩
 have he : args = ds.map .d := allD_eq h1
 have hd : ∀ l : List DV, allD (l.map .d) = some l := by
  intro l; induction l with
  | nil => rfl
  | cons c l ih => simp [allD, ih]
 rw [he, ← List.map_append, ← List.map_append, hd]
end Go.Tel
open Nat renaming reduceBEq → qA, reduceAdd → qB, reduceSub → qC, reduceEqDiff → qD, reduceLT → qE, reduceLeDiff → qF
namespace Go.Tel
open Go.Am
set_option maxRecDepth 10000 in
theorem indexFWh_c (xs : List Wh) (fn : FuncId) (caps : List DV) (p : Wh → Bool) (hl : xs.length ≤ 1000000) (hc : callable C.P fn = true) (hp : ∀ x ∈ xs, Pure C fn ([(Wh.dv x).strip] ++ caps.map DV.strip) (.d (.bool (p x))) []) :
  Pure C F.slices_IndexFunc_api_PlateWheel [.slice false (xs.map Wh.dv), .func (.func fn) [] caps] (.d (.int .i64 (idxF p xs 0))) [] := by
 refine pure_of_pwp_d mixed rfl ok_slices_IndexFunc_api_PlateWheel ?_
 simp only [pc_slices_IndexFunc_api_PlateWheel, rs_slices_IndexFunc_api_PlateWheel, List.length_map, RN, qA, qB, qC, qD, qE, qF]
 refine pwp_range xs.length (fun i (_ : Unit) => ⟨[(0, .d (.slice false (xs.map Wh.dv))), (1, .d (.func (.func fn) [] caps)), (7, .d (.int .i64 xs.length)), (8, .d (.int .i64 i))], ⟨[], [], []⟩⟩)
  (fun i _ => idxF p xs 0 = idxF p (xs.drop i) i) 0 () (Nat.zero_le _) rfl rfl (fun i _ h1 hix => ?_) (fun _ hix => ?_)
 ·obtain ⟨h2, h3, h6⟩ := rng h1 hl
  rw [drop_cons h1, idxF] at hix
  have hx := hp (xs.getD i default) (by rw [List.getD_eq_getElem?_getD, List.getElem?_eq_getElem h1]; exact List.getElem_mem h1)
  simp only [h2, h3, h1, getD_map, Int.toNat_natCast, List.length_map, dv_Wh, RN, qA, qB, qC, qD, qE, qF]
  refine callV_d rfl hc (by simp only [List.nil_append, List.map_append, List.map_cons, List.map_nil, dv_Wh]) hx ?_
  cases h4 : p (xs.getD i default)
  ·simp only [h6, RN, qA, qB, qC, qD, qE, qF]
   exact up_same () h1 rfl (by rw [if_neg (fun h => by rw [h4] at h; cases h)] at hix; exact hix) (by simp) (by simp) rfl rfl
  ·simp only [RN, qA, qB, qC, qD, qE, qF]
   rw [hix, if_pos h4]
 ·rw [List.drop_length, idxF] at hix
  simp only [Int.lt_irrefl, hix, RN, qA, qB, qC, qD, qE, qF]
set_option maxRecDepth 10000 in
theorem containsFWh_c (xs : List Wh) (fn : FuncId) (caps : List DV) (p : Wh → Bool) (hl : xs.length ≤ 1000000) (hc : callable C.P fn = true) (hp : ∀ x ∈ xs, Pure C fn ([(Wh.dv x).strip] ++ caps.map DV.strip) (.d (.bool (p x))) []) :
  Pure C F.slices_ContainsFunc_api_PlateWheel [.slice false (xs.map Wh.dv), .func (.func fn) [] caps] (.d (.bool (xs.any p))) [] := by
 have hi := indexFWh_c xs fn caps p hl hc hp
 refine pure_of_pwp_d mixed rfl ok_slices_ContainsFunc_api_PlateWheel ?_
 simp only [pc_slices_ContainsFunc_api_PlateWheel, rs_slices_ContainsFunc_api_PlateWheel, RN, qA, qB, qC, qD, qE, qF]
 refine call_d rfl rfl hi ?_
 simp only [idxF_ge, RN, qA, qB, qC, qD, qE, qF]
set_option maxRecDepth 10000 in
theorem indexFInt_c (xs : List Int) (fn : FuncId) (caps : List DV) (p : Int → Bool) (hl : xs.length ≤ 1000000) (hc : callable C.P fn = true) (hp : ∀ x ∈ xs, Pure C fn ([(intDV x).strip] ++ caps.map DV.strip) (.d (.bool (p x))) []) :
  Pure C F.slices_IndexFunc_int [.slice false (xs.map intDV), .func (.func fn) [] caps] (.d (.int .i64 (idxF p xs 0))) [] := by
 refine pure_of_pwp_d mixed rfl ok_slices_IndexFunc_int ?_
 simp only [pc_slices_IndexFunc_int, rs_slices_IndexFunc_int, List.length_map, RN, qA, qB, qC, qD, qE, qF]
 refine pwp_range xs.length (fun i (_ : Unit) => ⟨[(0, .d (.slice false (xs.map intDV))), (1, .d (.func (.func fn) [] caps)), (7, .d (.int .i64 xs.length)), (8, .d (.int .i64 i))], ⟨[], [], []⟩⟩)
  (fun i _ => idxF p xs 0 = idxF p (xs.drop i) i) 0 () (Nat.zero_le _) rfl rfl (fun i _ h1 hix => ?_) (fun _ hix => ?_)
 ·obtain ⟨h2, h3, h6⟩ := rng h1 hl
  rw [drop_cons h1, idxF] at hix
  have hx := hp (xs.getD i default) (by rw [List.getD_eq_getElem?_getD, List.getElem?_eq_getElem h1]; exact List.getElem_mem h1)
  simp only [h2, h3, h1, getD_map, Int.toNat_natCast, List.length_map, dv_int, RN, qA, qB, qC, qD, qE, qF]
  refine callV_d rfl hc (by simp only [List.nil_append, List.map_append, List.map_cons, List.map_nil, dv_int]) hx ?_
  cases h4 : p (xs.getD i default)
  ·simp only [h6, RN, qA, qB, qC, qD, qE, qF]
   exact up_same () h1 rfl (by rw [if_neg (fun h => by rw [h4] at h; cases h)] at hix; exact hix) (by simp) (by simp) rfl rfl
  ·simp only [RN, qA, qB, qC, qD, qE, qF]
   rw [hix, if_pos h4]
 ·rw [List.drop_length, idxF] at hix
  simp only [Int.lt_irrefl, hix, RN, qA, qB, qC, qD, qE, qF]
set_option maxRecDepth 10000 in
theorem containsFInt_c (xs : List Int) (fn : FuncId) (caps : List DV) (p : Int → Bool) (hl : xs.length ≤ 1000000) (hc : callable C.P fn = true) (hp : ∀ x ∈ xs, Pure C fn ([(intDV x).strip] ++ caps.map DV.strip) (.d (.bool (p x))) []) :
  Pure C F.slices_ContainsFunc_int [.slice false (xs.map intDV), .func (.func fn) [] caps] (.d (.bool (xs.any p))) [] := by
 have hi := indexFInt_c xs fn caps p hl hc hp
 refine pure_of_pwp_d mixed rfl ok_slices_ContainsFunc_int ?_
 simp only [pc_slices_ContainsFunc_int, rs_slices_ContainsFunc_int, RN, qA, qB, qC, qD, qE, qF]
 refine call_d rfl rfl hi ?_
 simp only [idxF_ge, RN, qA, qB, qC, qD, qE, qF]
def pieceCells (p : Piece) : List DV := [.int .i64 p.w, .int .i64 p.h, .int .i64 p.pl, .int .i64 p.ga, .int .i64 p.po, .slice false (p.cs.map Pt.dv), .slice false (p.ws.map Wh.dv), .slice false (p.ms.map Ms.dv)]
theorem ev_slcD_hi {C : Ctx} {base sz : Nat} {M : Mem} {K : PV → Mem → Prop} {KP : DV → Mem → Prop} {xs : List DV} {k : IntKind} {n : Int} (hs : ∀ x ∈ xs, x.cells.length = sz) (h0 : 0 ≤ n) (h1 : n ≤ xs.length) :
  runOp C base (.slcD sz false true false) [.d (.slice false xs), .d (.int k n)] M K KP = K (.d (.slice false (xs.take n.toNat))) M := by
 simp only [runOp, runSlcD, optInt, Option.getD_none, Option.getD_some, true_and, Int.le_refl, h0, h1, Int.toNat_zero, List.drop_zero, Bool.false_or, Bool.false_and]
 simp
 intro hk x hx
 exact hs x hx
theorem pts_sz (xs : List Pt) : ∀ x ∈ xs.map Pt.dv, x.cells.length = 2 := by
 intro x hx; simp only [List.mem_map] at hx; obtain ⟨y, _, rfl⟩ := hx; rfl
theorem mss_sz (xs : List Ms) : ∀ x ∈ xs.map Ms.dv, x.cells.length = 2 := by
 intro x hx; simp only [List.mem_map] at hx; obtain ⟨y, _, rfl⟩ := hx; rfl
theorem whs_sz (xs : List Wh) : ∀ x ∈ xs.map Wh.dv, x.cells.length = 4 := by
 intro x hx; simp only [List.mem_map] at hx; obtain ⟨y, _, rfl⟩ := hx; rfl
set_option maxRecDepth 10000 in
set_option maxHeartbeats 1000000 in
theorem isPiece_c (p : Piece) (hc : p.cs.length ≤ 1000) (hw : p.ws.length ≤ 1000) (hm : p.ms.length ≤ 1000) : Pure C F.plate_isPiece [p.dv] (.d (.bool p.ok)) [] := by
 refine pure_of_pwp_d mixed rfl ok_plate_isPiece ?_
 simp only [pc_plate_isPiece, rs_plate_isPiece, dv_Piece, RN, qA, qB, qC, qD, qE, qF]
 repeat' first
  | (refine call_d rfl rfl (in_c _ _ _) ?_; try simp only [List.length_map, RN, qA, qB, qC, qD, qE, qF])
  | (refine guard_split (by rfl) (fun hB => ?_) (fun hB => ?_) <;> simp only [hB, List.length_map, RN, qA, qB, qC, qD, qE, qF])
  | (refine cond_split (by rfl) (fun hB => ?_) (fun hB => ?_) <;> simp only [hB, List.length_map, RN, qA, qB, qC, qD, qE, qF])
 any_goals (simp_all [Piece.ok, Piece.headOk, Piece.lensOk]; done)
 refine pwp_range p.cs.length (fun i (_ : Unit) => ⟨[(1, .d (.cptr (pieceCells p))), (53, .d (.slice false (p.cs.map Pt.dv))), (54, .d (.int .i64 p.cs.length)), (55, .d (.int .i64 i))], ⟨[some ((pieceCells p).map .d)], [0], []⟩⟩)
  (fun i _ => ptsOk p.w p.h [] p.cs = ptsOk p.w p.h (p.cs.take i) (p.cs.drop i)) 0 () (Nat.zero_le _) rfl (by simp) (fun i _ h1 hix => ?_) (fun _ hix => ?_)
 ·obtain ⟨h2, h3, h6⟩ := rng h1 (by omega)
  rw [drop_cons h1, ptsOk] at hix
  have hle : ((i : Nat) : Int) ≤ ((p.cs.map Pt.dv).length : Int) := by simp; omega
  have ht : (p.cs.take i).length ≤ 1000000 := by simp; omega
  simp only [h2, h3, h1, getD_map, Int.toNat_natCast, List.length_map, dv_Pt, pieceCells, RN, qA, qB, qC, qD, qE, qF]
  repeat' first
   | (refine call_d rfl rfl (in_c _ _ _) ?_; try simp only [h6, List.length_map, ev_slcD_hi (pts_sz p.cs) h3 hle, Int.toNat_natCast, ← List.map_take, RN, qA, qB, qC, qD, qE, qF])
   | (refine call_d rfl rfl (containsPt_c _ _ ht) ?_; try simp only [h6, List.length_map, ev_slcD_hi (pts_sz p.cs) h3 hle, Int.toNat_natCast, ← List.map_take, RN, qA, qB, qC, qD, qE, qF])
   | (refine guard_split (by rfl) (fun hB => ?_) (fun hB => ?_) <;> simp only [hB, h6, List.length_map, ev_slcD_hi (pts_sz p.cs) h3 hle, Int.toNat_natCast, ← List.map_take, RN, qA, qB, qC, qD, qE, qF])
   | (refine cond_split (by rfl) (fun hB => ?_) (fun hB => ?_) <;> simp only [hB, h6, List.length_map, ev_slcD_hi (pts_sz p.cs) h3 hle, Int.toNat_natCast, ← List.map_take, RN, qA, qB, qC, qD, qE, qF])
  any_goals (simp_all [Piece.ok]; done)
  all_goals
   refine up_take 1 0 () h1 rfl ?_ (by simp) (by simp) rfl rfl
   rw [hix]
   simp_all
 ·rw [List.drop_length] at hix
  simp only [Int.lt_irrefl, pieceCells, List.length_map, RN, qA, qB, qC, qD, qE, qF]
  refine pwp_range p.ms.length (fun i (_ : Unit) => ⟨[(1, .d (.cptr (pieceCells p))), (84, .d (.slice false (p.ms.map Ms.dv))), (85, .d (.int .i64 p.ms.length)), (86, .d (.int .i64 i))], ⟨[some ((pieceCells p).map .d)], [0], []⟩⟩)
   (fun i _ => mssOk p.ws.length [] p.ms = mssOk p.ws.length (p.ms.take i) (p.ms.drop i)) 0 () (Nat.zero_le _) rfl (by simp) (fun i _ h1 hix2 => ?_) (fun _ hix2 => ?_)
  ·obtain ⟨h2, h3, h6⟩ := rng h1 (by omega)
   rw [drop_cons h1, mssOk] at hix2
   have hle : ((i : Nat) : Int) ≤ ((p.ms.map Ms.dv).length : Int) := by simp; omega
   have ht : (p.ms.take i).length ≤ 1000000 := by simp; omega
   simp only [h2, h3, h1, getD_map, Int.toNat_natCast, List.length_map, dv_Ms, pieceCells, RN, qA, qB, qC, qD, qE, qF]
   repeat' first
    | (refine call_d rfl rfl (in_c _ _ _) ?_; try simp only [h6, List.length_map, ev_slcD_hi (mss_sz p.ms) h3 hle, Int.toNat_natCast, ← List.map_take, RN, qA, qB, qC, qD, qE, qF])
    | (refine call_d rfl rfl (containsMs_c _ _ ht) ?_; try simp only [h6, List.length_map, ev_slcD_hi (mss_sz p.ms) h3 hle, Int.toNat_natCast, ← List.map_take, RN, qA, qB, qC, qD, qE, qF])
    | (refine call_d rfl rfl (isWheel_c p _ (by omega)) ?_; try simp only [h6, List.length_map, ev_slcD_hi (mss_sz p.ms) h3 hle, Int.toNat_natCast, ← List.map_take, RN, qA, qB, qC, qD, qE, qF])
    | (refine guard_split (by rfl) (fun hB => ?_) (fun hB => ?_) <;> simp only [hB, h6, List.length_map, ev_slcD_hi (mss_sz p.ms) h3 hle, Int.toNat_natCast, ← List.map_take, RN, qA, qB, qC, qD, qE, qF])
    | (refine cond_split (by rfl) (fun hB => ?_) (fun hB => ?_) <;> simp only [hB, h6, List.length_map, ev_slcD_hi (mss_sz p.ms) h3 hle, Int.toNat_natCast, ← List.map_take, RN, qA, qB, qC, qD, qE, qF])
   any_goals (simp_all [Piece.ok]; done)
   all_goals
    refine up_take 1 0 () h1 rfl ?_ (by simp) (by simp) rfl rfl
    rw [hix2]
    simp_all
  ·rw [List.drop_length] at hix2
   simp only [Int.lt_irrefl, pieceCells, List.length_map, ev_mkF, RN, qA, qB, qC, qD, qE, qF]
   refine call_d rfl rfl (containsFWh_c p.ws _ _ (fun w => !whOk p.cs.length w) (by omega) (by kernel_rfl) (fun w _ => isPiece_1_c p w (by omega))) ?_
   simp only [RN, qA, qB, qC, qD, qE, qF]
   simp only [ptsOk, mssOk] at hix hix2
   have e : ∀ l : List Wh, (l.any fun w => !whOk p.cs.length w) = !l.all (whOk p.cs.length) := by
    intro l; induction l with
    | nil => rfl
    | cons x l ih => simp only [List.any_cons, List.all_cons, ih, Bool.not_and]
   rw [e, Bool.not_not]
   simp_all [Piece.ok, Piece.headOk, Piece.lensOk]
end Go.Tel
open Nat renaming reduceBEq → qA, reduceAdd → qB, reduceSub → qC, reduceEqDiff → qD, reduceLT → qE, reduceLeDiff → qF
namespace Go.Tel
open Go.Am
structure Piece.good (p : Piece) : Prop where
 cs : ∀ c ∈ p.cs, 0 ≤ c.x ∧ c.x ≤ 1000 ∧ 0 ≤ c.y ∧ c.y ≤ 1000
 ws : ∀ w ∈ p.ws, (0 ≤ w.centre ∧ w.centre.toNat < p.cs.length) ∧ 0 ≤ w.teeth ∧ w.teeth ≤ 1000 ∧ 0 ≤ w.layer ∧ w.layer ≤ 1000
 w : 0 ≤ p.w ∧ p.w ≤ 1000
 h : 0 ≤ p.h ∧ p.h ≤ 1000
 pl : 0 ≤ p.pl ∧ p.pl ≤ 1000
 ga : 0 ≤ p.ga ∧ p.ga ≤ 1000
 po : 0 ≤ p.po ∧ p.po ≤ 1000
 lw : p.ws.length ≤ 1000
def Piece.isW (p : Piece) (a : Int) : Prop := 0 ≤ a ∧ a.toNat < p.ws.length
theorem getD_mem {α : Type} [Inhabited α] {l : List α} {i : Nat} (h : i < l.length) : l.getD i default ∈ l := by
 rw [List.getD_eq_getElem?_getD, List.getElem?_eq_getElem h]; exact List.getElem_mem h
theorem sq_bd {n : Int} {k : Nat} (h : -(k : Int) ≤ n ∧ n ≤ k) : 0 ≤ n * n ∧ n * n ≤ ((k * k : Nat) : Int) := by
 have e : n * n = ((n.natAbs * n.natAbs : Nat) : Int) := by
  rw [Int.natCast_mul]; exact (Int.natAbs_mul_self' n).symm
 have h1 : n.natAbs ≤ k := by omega
 have h2 := Nat.mul_le_mul h1 h1
 rw [e]
 omega
section
variable {p : Piece} (hg : p.good) {a b : Int} (ha : p.isW a) (hb : p.isW b)
include hg ha
theorem good_wh : ((0 ≤ (p.ws.getD a.toNat default).centre ∧ (p.ws.getD a.toNat default).centre.toNat < p.cs.length) ∧ 0 ≤ (p.ws.getD a.toNat default).teeth ∧ (p.ws.getD a.toNat default).teeth ≤ 1000 ∧ 0 ≤ (p.ws.getD a.toNat default).layer ∧ (p.ws.getD a.toNat default).layer ≤ 1000) :=
 hg.ws _ (getD_mem ha.2)
theorem good_pt : 0 ≤ (p.cs.getD (p.ws.getD a.toNat default).centre.toNat default).x ∧ (p.cs.getD (p.ws.getD a.toNat default).centre.toNat default).x ≤ 1000 ∧ 0 ≤ (p.cs.getD (p.ws.getD a.toNat default).centre.toNat default).y ∧ (p.cs.getD (p.ws.getD a.toNat default).centre.toNat default).y ≤ 1000 :=
 hg.cs _ (getD_mem (good_wh hg ha).1.2)
include hb
theorem far_bd : 0 ≤ p.far a b ∧ p.far a b ≤ 2000000 := by
 have h1 := good_pt hg ha
 have h2 := good_pt hg hb
 have x := sq_bd (n := (p.pt a).x - (p.pt b).x) (k := 1000) (by simp only [Piece.pt, Piece.wh]; omega)
 have y := sq_bd (n := (p.pt a).y - (p.pt b).y) (k := 1000) (by simp only [Piece.pt, Piece.wh]; omega)
 simp only [Piece.far, sq]
 omega
end
theorem square_c (n : Int) (h : -10000 ≤ n ∧ n ≤ 10000) : Pure C F.plate_square [.int .i64 n] (.d (.int .i64 (sq n))) [] := by
 have hb := sq_bd (n := n) (k := 10000) (by omega)
 have hw : IntKind.i64.wrap (n * n) = n * n := w64_in (by omega)
 refine pure_of_pwp_d mixed rfl ok_plate_square ?_
 simp only [pc_plate_square, rs_plate_square, hw, sq, RN, qA, qB, qC, qD, qE, qF]
set_option maxRecDepth 10000 in
theorem laid_far_c (l : Laid) (hg : l.p.good) (a b : Int) (ha : l.p.isW a) (hb : l.p.isW b) : Pure C F.plate_laid_far [l.dv, .int .i64 a, .int .i64 b] (.d (.int .i64 (l.p.far a b))) [] := by
 have fb := far_bd hg ha hb
 have xa := good_pt hg ha
 have xb := good_pt hg hb
 obtain ⟨⟨a3, a4⟩, _⟩ := good_wh hg ha
 obtain ⟨⟨b3, b4⟩, _⟩ := good_wh hg hb
 obtain ⟨a1, a2⟩ := ha
 obtain ⟨b1, b2⟩ := hb
 refine pure_of_pwp_d mixed rfl ok_plate_laid_far ?_
 simp only [pc_plate_laid_far, rs_plate_laid_far, dv_Laid, dv_Pt, dv_Wh, getD_map, a1, a2, a3, a4, b1, b2, b3, b4, List.length_map, RN, qA, qB, qC, qD, qE, qF]
 rw [w64_in (by omega)]
 refine call_d rfl rfl (square_c _ (by omega)) ?_
 rw [w64_in (by omega)]
 refine call_d rfl rfl (square_c _ (by omega)) ?_
 simp only [Piece.far, Piece.pt, Piece.wh] at fb
 simp only [Piece.far, Piece.pt, Piece.wh, RN, qA, qB, qC, qD, qE, qF]
 rw [w64_in (by omega)]
set_option maxRecDepth 10000 in
theorem laid_level_c (l : Laid) (a b : Int) (ha : l.p.isW a) (hb : l.p.isW b) : Pure C F.plate_laid_level [l.dv, .int .i64 a, .int .i64 b] (.d (.bool (l.p.level a b))) [] := by
 obtain ⟨a1, a2⟩ := ha
 obtain ⟨b1, b2⟩ := hb
 refine pure_of_pwp_d mixed rfl ok_plate_laid_level ?_
 simp only [pc_plate_laid_level, rs_plate_laid_level, dv_Laid, dv_Wh, getD_map, a1, a2, b1, b2, List.length_map, Piece.level, Piece.wh, RN, qA, qB, qC, qD, qE, qF]
set_option maxRecDepth 10000 in
theorem laid_centred_c (l : Laid) (a b : Int) (ha : l.p.isW a) (hb : l.p.isW b) : Pure C F.plate_laid_centred [l.dv, .int .i64 a, .int .i64 b] (.d (.bool (l.p.centred a b))) [] := by
 obtain ⟨a1, a2⟩ := ha
 obtain ⟨b1, b2⟩ := hb
 refine pure_of_pwp_d mixed rfl ok_plate_laid_centred ?_
 simp only [pc_plate_laid_centred, rs_plate_laid_centred, dv_Laid, dv_Wh, getD_map, a1, a2, b1, b2, List.length_map, Piece.centred, Piece.wh, RN, qA, qB, qC, qD, qE, qF]
set_option maxRecDepth 10000 in
theorem laid_sum_c (l : Laid) (hg : l.p.good) (a b : Int) (ha : l.p.isW a) (hb : l.p.isW b) : Pure C F.plate_laid_sum [l.dv, .int .i64 a, .int .i64 b] (.d (.int .i64 (l.p.sum a b))) [] := by
 have ga := good_wh hg ha
 have gb := good_wh hg hb
 obtain ⟨a1, a2⟩ := ha
 obtain ⟨b1, b2⟩ := hb
 refine pure_of_pwp_d mixed rfl ok_plate_laid_sum ?_
 simp only [pc_plate_laid_sum, rs_plate_laid_sum, dv_Laid, dv_Wh, getD_map, a1, a2, b1, b2, List.length_map, Piece.sum, Piece.wh, RN, qA, qB, qC, qD, qE, qF]
 rw [w64_in (by omega)]
set_option maxRecDepth 10000 in
theorem laid_sleeved_c (l : Laid) (a b : Int) (ha : l.p.isW a) (hb : l.p.isW b) : Pure C F.plate_laid_sleeved [l.dv, .int .i64 a, .int .i64 b] (.d (.bool (l.p.sleeved a b))) [] := by
 have hc := laid_centred_c l a b ha hb
 obtain ⟨a1, a2⟩ := ha
 obtain ⟨b1, b2⟩ := hb
 refine pure_of_pwp_d mixed rfl ok_plate_laid_sleeved ?_
 simp only [pc_plate_laid_sleeved, rs_plate_laid_sleeved, dv_Laid, RN, qA, qB, qC, qD, qE, qF]
 refine call_d rfl rfl hc ?_
 cases h : l.p.centred a b
 ·simp only [Piece.sleeved, h, Bool.false_and, RN, qA, qB, qC, qD, qE, qF]
 ·simp only [dv_Wh, getD_map, a1, a2, b1, b2, List.length_map, Piece.sleeved, h, Piece.wh, RN, qA, qB, qC, qD, qE, qF]
theorem mlook_mm (k : Ms) : ∀ mm : List Ms, mlookL [1, 1] (mm.map fun m => (m.dv, DV.bool true)) [.int .i64 k.a, .int .i64 k.b] = some (if mm.contains k then some (.bool true) else none)
 | [] => rfl
 | m :: mm => by
  simp only [List.map_cons, dv_Ms, mlookL, cellsEq, if_true, Option.map_some, Bool.and_true, ms_eq, List.contains_cons]
  by_cases h : k = m
  ·subst h; simp
  ·have hb : (k == m) = false := by simp [h]
   have hd : decide (k = m) = false := by simp [h]
   have := mlook_mm k mm
   simp only [dv_Ms] at this
   simp only [hd, hb, Bool.false_or, this]
theorem ev_mlook_mm {C : Ctx} {base : Nat} {M : Mem} {K : PV → Mem → Prop} {KP : DV → Mem → Prop} {mm : List Ms} {x y : Int} :
  runOp C base (.mlook [1, 1] (.bool false)) [.d (.map (some (mm.map fun m => (m.dv, .bool true)))), .d (.agg [.int .i64 x, .int .i64 y])] M K KP = K (.d (.bool (mm.contains ⟨x, y⟩))) M := by
 have h := mlook_mm ⟨x, y⟩ mm
 simp only at h
 have hk : cellsEq [1, 1] [DV.int .i64 x, .int .i64 y] [.int .i64 x, .int .i64 y] = some true := by simp [cellsEq]
 simp only [runOp, hk, h]
 cases mm.contains ⟨x, y⟩ <;> rfl
def Laid.fine (l : Laid) : Prop := ∀ m, l.mm.contains m = l.p.ms.contains m
theorem minmax_f {a b : Int} : (bif false then (if b > a then b else a) else (if b < a then b else a)) = min a b := by simp only [cond_false]; omega
theorem minmax_t {a b : Int} : (bif true then (if b > a then b else a) else (if b < a then b else a)) = max a b := by simp only [cond_true]; omega
set_option maxRecDepth 10000 in
theorem laid_mesh_c (l : Laid) (hf : l.fine) (a b : Int) : Pure C F.plate_laid_mesh [l.dv, .int .i64 a, .int .i64 b] (.d (.bool (l.p.mesh a b))) [] := by
 refine pure_of_pwp_d mixed rfl ok_plate_laid_mesh ?_
 simp only [pc_plate_laid_mesh, rs_plate_laid_mesh, dv_Laid, ev_mlook_mm, hf _, Piece.mesh, RN, qA, qB, qC, qD, qE, qF]
 have e1 : (if b < a then b else a) = min a b := by split <;> omega
 have e2 : (if b > a then b else a) = max a b := by split <;> omega
 rw [e1, e2]
theorem sum_bd {p : Piece} (hg : p.good) {a b : Int} (ha : p.isW a) (hb : p.isW b) : 0 ≤ p.sum a b ∧ p.sum a b ≤ 2000 := by
 have h1 := good_wh hg ha
 have h2 := good_wh hg hb
 simp only [Piece.sum, Piece.wh]
 omega
set_option maxRecDepth 10000 in
theorem laid_apart_c (l : Laid) (hg : l.p.good) (hf : l.fine) (a b : Int) (ha : l.p.isW a) (hb : l.p.isW b) : Pure C F.plate_laid_apart [l.dv, .int .i64 a, .int .i64 b] (.d (.bool (l.p.apart a b))) [] := by
 have hs := sum_bd hg ha hb
 have hp := hg.pl
 have hw : IntKind.i64.wrap (l.p.sum a b + l.p.pl) = l.p.sum a b + l.p.pl := w64_in (by omega)
 refine pure_of_pwp_d mixed rfl ok_plate_laid_apart ?_
 simp only [pc_plate_laid_apart, rs_plate_laid_apart, dv_Laid, RN, qA, qB, qC, qD, qE, qF]
 repeat' first
  | (refine call_d rfl rfl (laid_sum_c l hg a b ha hb) ?_; try simp only [hw, RN, qA, qB, qC, qD, qE, qF])
  | (refine call_d rfl rfl (laid_mesh_c l hf a b) ?_; try simp only [hw, RN, qA, qB, qC, qD, qE, qF])
  | (refine call_d rfl rfl (laid_level_c l a b ha hb) ?_; try simp only [hw, RN, qA, qB, qC, qD, qE, qF])
  | (refine call_d rfl rfl (laid_centred_c l a b ha hb) ?_; try simp only [hw, RN, qA, qB, qC, qD, qE, qF])
  | (refine call_d rfl rfl (laid_far_c l hg a b ha hb) ?_; try simp only [hw, RN, qA, qB, qC, qD, qE, qF])
  | (refine call_d rfl rfl (square_c _ (by omega)) ?_; try simp only [hw, RN, qA, qB, qC, qD, qE, qF])
  | (refine guard_split (by rfl) (fun hB => ?_) (fun hB => ?_) <;> simp only [hB, hw, RN, qA, qB, qC, qD, qE, qF])
  | (refine cond_split (by rfl) (fun hB => ?_) (fun hB => ?_) <;> simp only [hB, hw, RN, qA, qB, qC, qD, qE, qF])
 all_goals (first | (simp only [Piece.apart, *, Bool.not_true, Bool.not_false, Bool.not_not, Bool.and_true, Bool.true_and, Bool.and_false, Bool.false_and, Bool.or_true, Bool.true_or, Bool.or_false, Bool.false_or, Bool.and_self, Bool.or_self, if_true, if_false, reduceIte, cond_true, cond_false, Bool.false_eq_true]; done) | (simp_all [Piece.apart]; done) | (simp_all [Piece.apart]; omega))
set_option maxRecDepth 10000 in
theorem laid_touch_c (l : Laid) (hg : l.p.good) (hf : l.fine) (a b : Int) (ha : l.p.isW a) (hb : l.p.isW b) : Pure C F.plate_laid_touch [l.dv, .int .i64 a, .int .i64 b] (.d (.bool (l.p.touch a b))) [] := by
 have hs := sum_bd hg ha hb
 have hp := hg.ga
 have hw : IntKind.i64.wrap (l.p.sum a b + l.p.ga) = l.p.sum a b + l.p.ga := w64_in (by omega)
 refine pure_of_pwp_d mixed rfl ok_plate_laid_touch ?_
 simp only [pc_plate_laid_touch, rs_plate_laid_touch, dv_Laid, RN, qA, qB, qC, qD, qE, qF]
 repeat' first
  | (refine call_d rfl rfl (laid_sum_c l hg a b ha hb) ?_; try simp only [hw, RN, qA, qB, qC, qD, qE, qF])
  | (refine call_d rfl rfl (laid_mesh_c l hf a b) ?_; try simp only [hw, RN, qA, qB, qC, qD, qE, qF])
  | (refine call_d rfl rfl (laid_level_c l a b ha hb) ?_; try simp only [hw, RN, qA, qB, qC, qD, qE, qF])
  | (refine call_d rfl rfl (laid_centred_c l a b ha hb) ?_; try simp only [hw, RN, qA, qB, qC, qD, qE, qF])
  | (refine call_d rfl rfl (laid_far_c l hg a b ha hb) ?_; try simp only [hw, RN, qA, qB, qC, qD, qE, qF])
  | (refine call_d rfl rfl (square_c _ (by omega)) ?_; try simp only [hw, RN, qA, qB, qC, qD, qE, qF])
  | (refine guard_split (by rfl) (fun hB => ?_) (fun hB => ?_) <;> simp only [hB, hw, RN, qA, qB, qC, qD, qE, qF])
  | (refine cond_split (by rfl) (fun hB => ?_) (fun hB => ?_) <;> simp only [hB, hw, RN, qA, qB, qC, qD, qE, qF])
 all_goals (first | (simp only [Piece.touch, *, Bool.not_true, Bool.not_false, Bool.not_not, Bool.and_true, Bool.true_and, Bool.and_false, Bool.false_and, Bool.or_true, Bool.true_or, Bool.or_false, Bool.false_or, Bool.and_self, Bool.or_self, if_true, if_false, reduceIte, cond_true, cond_false, Bool.false_eq_true]; done) | (simp_all [Piece.touch]; done) | (simp_all [Piece.touch]; omega))
set_option maxRecDepth 10000 in
theorem laid_same_c (l : Laid) (a b : Int) (ha : l.p.isW a) (hb : l.p.isW b) : Pure C F.plate_laid_same [l.dv, .int .i64 a, .int .i64 b] (.d (.bool (l.p.same a b))) [] := by
 refine pure_of_pwp_d mixed rfl ok_plate_laid_same ?_
 simp only [pc_plate_laid_same, rs_plate_laid_same, dv_Laid, RN, qA, qB, qC, qD, qE, qF]
 repeat' first
  | (refine call_d rfl rfl (laid_level_c l a b ha hb) ?_; try simp only [RN, qA, qB, qC, qD, qE, qF])
  | (refine call_d rfl rfl (laid_centred_c l a b ha hb) ?_; try simp only [RN, qA, qB, qC, qD, qE, qF])
  | (refine guard_split (by rfl) (fun hB => ?_) (fun hB => ?_) <;> simp only [hB, RN, qA, qB, qC, qD, qE, qF])
  | (refine cond_split (by rfl) (fun hB => ?_) (fun hB => ?_) <;> simp only [hB, RN, qA, qB, qC, qD, qE, qF])
 all_goals (first | (simp only [Piece.same, *, Bool.not_true, Bool.not_false, Bool.not_not, Bool.and_true, Bool.true_and, Bool.and_false, Bool.false_and, Bool.or_true, Bool.true_or, Bool.or_false, Bool.false_or, Bool.and_self, Bool.or_self, if_true, if_false, reduceIte, cond_true, cond_false, Bool.false_eq_true]; done) | (simp_all [Piece.same]; done) | (simp_all [Piece.same]; omega))
def Piece.clash (p : Piece) (a b : Int) : Bool := !p.mesh a b && (p.centred a b || decide (p.far a b < sq (p.sum a b + p.ga)))
set_option maxRecDepth 10000 in
theorem laid_clash_c (l : Laid) (hg : l.p.good) (hf : l.fine) (a b : Int) (ha : l.p.isW a) (hb : l.p.isW b) : Pure C F.plate_laid_clash [l.dv, .int .i64 a, .int .i64 b] (.d (.bool (l.p.clash a b))) [] := by
 have hs := sum_bd hg ha hb
 have hp := hg.ga
 have hw : IntKind.i64.wrap (l.p.sum a b + l.p.ga) = l.p.sum a b + l.p.ga := w64_in (by omega)
 refine pure_of_pwp_d mixed rfl ok_plate_laid_clash ?_
 simp only [pc_plate_laid_clash, rs_plate_laid_clash, dv_Laid, RN, qA, qB, qC, qD, qE, qF]
 repeat' first
  | (refine call_d rfl rfl (laid_sum_c l hg a b ha hb) ?_; try simp only [hw, RN, qA, qB, qC, qD, qE, qF])
  | (refine call_d rfl rfl (laid_mesh_c l hf a b) ?_; try simp only [hw, RN, qA, qB, qC, qD, qE, qF])
  | (refine call_d rfl rfl (laid_level_c l a b ha hb) ?_; try simp only [hw, RN, qA, qB, qC, qD, qE, qF])
  | (refine call_d rfl rfl (laid_centred_c l a b ha hb) ?_; try simp only [hw, RN, qA, qB, qC, qD, qE, qF])
  | (refine call_d rfl rfl (laid_far_c l hg a b ha hb) ?_; try simp only [hw, RN, qA, qB, qC, qD, qE, qF])
  | (refine call_d rfl rfl (square_c _ (by omega)) ?_; try simp only [hw, RN, qA, qB, qC, qD, qE, qF])
  | (refine guard_split (by rfl) (fun hB => ?_) (fun hB => ?_) <;> simp only [hB, hw, RN, qA, qB, qC, qD, qE, qF])
  | (refine cond_split (by rfl) (fun hB => ?_) (fun hB => ?_) <;> simp only [hB, hw, RN, qA, qB, qC, qD, qE, qF])
 all_goals (first | (simp only [Piece.clash, *, Bool.not_true, Bool.not_false, Bool.not_not, Bool.and_true, Bool.true_and, Bool.and_false, Bool.false_and, Bool.or_true, Bool.true_or, Bool.or_false, Bool.false_or, Bool.and_self, Bool.or_self, if_true, if_false, reduceIte, cond_true, cond_false, Bool.false_eq_true]; done) | (simp_all [Piece.clash]; done) | (simp_all [Piece.clash]; omega))
set_option maxRecDepth 10000 in
theorem laid_edged_c (l : Laid) (hg : l.p.good) (a : Int) (ha : l.p.isW a) : Pure C F.plate_laid_edged [l.dv, .int .i64 a] (.d (.bool (l.p.edged a))) [] := by
 have xa := good_pt hg ha
 obtain ⟨⟨a3, a4⟩, t1, t2, _⟩ := good_wh hg ha
 obtain ⟨a1, a2⟩ := ha
 have w1 : IntKind.i64.wrap ((l.p.cs.getD (l.p.ws.getD a.toNat default).centre.toNat default).x + (l.p.ws.getD a.toNat default).teeth) = (l.p.cs.getD (l.p.ws.getD a.toNat default).centre.toNat default).x + (l.p.ws.getD a.toNat default).teeth := w64_in (by omega)
 have w2 : IntKind.i64.wrap ((l.p.cs.getD (l.p.ws.getD a.toNat default).centre.toNat default).y + (l.p.ws.getD a.toNat default).teeth) = (l.p.cs.getD (l.p.ws.getD a.toNat default).centre.toNat default).y + (l.p.ws.getD a.toNat default).teeth := w64_in (by omega)
 refine pure_of_pwp_d mixed rfl ok_plate_laid_edged ?_
 simp only [pc_plate_laid_edged, rs_plate_laid_edged, dv_Laid, dv_Pt, dv_Wh, getD_map, a1, a2, a3, a4, List.length_map, RN, qA, qB, qC, qD, qE, qF]
 repeat' first
  | (refine call_d rfl rfl (square_c _ (by omega)) ?_; try simp only [w1, w2, RN, qA, qB, qC, qD, qE, qF])
  | (refine guard_split (by rfl) (fun hB => ?_) (fun hB => ?_) <;> simp only [hB, w1, w2, RN, qA, qB, qC, qD, qE, qF])
  | (refine cond_split (by rfl) (fun hB => ?_) (fun hB => ?_) <;> simp only [hB, w1, w2, RN, qA, qB, qC, qD, qE, qF])
 all_goals (first | (simp only [Piece.edged, Piece.pt, Piece.wh, *, Bool.not_true, Bool.not_false, Bool.not_not, Bool.and_true, Bool.true_and, Bool.and_false, Bool.false_and, Bool.or_true, Bool.true_or, Bool.or_false, Bool.false_or, Bool.and_self, Bool.or_self, if_true, if_false, reduceIte, cond_true, cond_false, Bool.false_eq_true]; done) | (simp_all [Piece.edged, Piece.pt, Piece.wh]; done) | (simp_all [Piece.edged, Piece.pt, Piece.wh]; omega))
set_option maxRecDepth 10000 in
theorem laid_posted_1_c (l : Laid) (hg : l.p.good) (a b : Int) (ha : l.p.isW a) (hb : l.p.isW b) : Pure C F.plate_laid_posted_1 [.int .i64 a, .int .i64 b, .cptr [.int .i64 l.p.w, .int .i64 l.p.h, .int .i64 l.p.pl, .int .i64 l.p.ga, .int .i64 l.p.po, .slice false (l.p.cs.map Pt.dv), .slice false (l.p.ws.map Wh.dv), .slice false (l.p.ms.map Ms.dv),
  .map (some (l.mm.map fun m => (m.dv, .bool true))), .slice false (l.gone.map intDV)]] (.d (.bool (l.p.post a b))) [] := by
 have hp := hg.po
 have hfar := laid_far_c l hg a b ha hb
 obtain ⟨_, t1, t2, _⟩ := good_wh hg ha
 obtain ⟨a1, a2⟩ := ha
 obtain ⟨b1, b2⟩ := hb
 have w1 : IntKind.i64.wrap ((l.p.ws.getD a.toNat default).teeth + l.p.po) = (l.p.ws.getD a.toNat default).teeth + l.p.po := w64_in (by omega)
 refine pure_of_pwp_d mixed rfl ok_plate_laid_posted_1 ?_
 simp only [pc_plate_laid_posted_1, rs_plate_laid_posted_1, dv_Wh, getD_map, a1, a2, b1, b2, List.length_map, RN, qA, qB, qC, qD, qE, qF]
 repeat' first
  | (refine call_d rfl rfl (hfar) ?_; try simp only [w1, dv_Wh, getD_map, a1, a2, b1, b2, List.length_map, RN, qA, qB, qC, qD, qE, qF])
  | (refine call_d rfl rfl (square_c _ (by omega)) ?_; try simp only [w1, dv_Wh, getD_map, a1, a2, b1, b2, List.length_map, RN, qA, qB, qC, qD, qE, qF])
  | (refine guard_split (by rfl) (fun hB => ?_) (fun hB => ?_) <;> simp only [hB, w1, dv_Wh, getD_map, a1, a2, b1, b2, List.length_map, RN, qA, qB, qC, qD, qE, qF])
  | (refine cond_split (by rfl) (fun hB => ?_) (fun hB => ?_) <;> simp only [hB, w1, dv_Wh, getD_map, a1, a2, b1, b2, List.length_map, RN, qA, qB, qC, qD, qE, qF])
 all_goals (first | (simp only [Piece.post, Piece.wh, *, Bool.not_true, Bool.not_false, Bool.not_not, Bool.and_true, Bool.true_and, Bool.and_false, Bool.false_and, Bool.or_true, Bool.true_or, Bool.or_false, Bool.false_or, Bool.and_self, Bool.or_self, if_true, if_false, reduceIte, cond_true, cond_false, Bool.false_eq_true]; done) | (simp_all [Piece.post, Piece.wh]; done) | (simp_all [Piece.post, Piece.wh]; omega))
set_option maxRecDepth 10000 in
theorem laid_posted_c (l : Laid) (hg : l.p.good) (a b : Int) (ha : l.p.isW a) (hb : l.p.isW b) : Pure C F.plate_laid_posted [l.dv, .int .i64 a, .int .i64 b] (.d (.bool (l.p.posted a b))) [] := by
 refine pure_of_pwp_d mixed rfl ok_plate_laid_posted ?_
 simp only [pc_plate_laid_posted, rs_plate_laid_posted, dv_Laid, RN, qA, qB, qC, qD, qE, qF]
 repeat' first
  | (refine call_d rfl rfl (laid_centred_c l a b ha hb) ?_; try simp only [RN, qA, qB, qC, qD, qE, qF])
  | (refine callV_d rfl (by kernel_rfl) rfl (laid_posted_1_c l hg a b ha hb) ?_; try simp only [RN, qA, qB, qC, qD, qE, qF])
  | (refine callV_d rfl (by kernel_rfl) rfl (laid_posted_1_c l hg b a hb ha) ?_; try simp only [RN, qA, qB, qC, qD, qE, qF])
  | (refine guard_split (by rfl) (fun hB => ?_) (fun hB => ?_) <;> simp only [hB, RN, qA, qB, qC, qD, qE, qF])
  | (refine cond_split (by rfl) (fun hB => ?_) (fun hB => ?_) <;> simp only [hB, RN, qA, qB, qC, qD, qE, qF])
 all_goals (first | (simp only [Piece.posted, *, Bool.not_true, Bool.not_false, Bool.not_not, Bool.and_true, Bool.true_and, Bool.and_false, Bool.false_and, Bool.or_true, Bool.true_or, Bool.or_false, Bool.false_or, Bool.and_self, Bool.or_self, if_true, if_false, reduceIte, cond_true, cond_false, Bool.false_eq_true]; done) | (simp_all [Piece.posted]; done) | (simp_all [Piece.posted]; omega))
end Go.Tel
open Nat renaming reduceBEq → qA, reduceAdd → qB, reduceSub → qC, reduceEqDiff → qD, reduceLT → qE, reduceLeDiff → qF
namespace Go.Tel
open Go.Am
def laidCells (l : Laid) : List DV := [.int .i64 l.p.w, .int .i64 l.p.h, .int .i64 l.p.pl, .int .i64 l.p.ga, .int .i64 l.p.po, .slice false (l.p.cs.map Pt.dv), .slice false (l.p.ws.map Wh.dv), .slice false (l.p.ms.map Ms.dv),
  .map (some (l.mm.map fun m => (m.dv, .bool true))), .slice false (l.gone.map intDV)]
theorem ifmin {a b : Int} : (if b < a then b else a) = min a b := by split <;> omega
theorem ifmax {a b : Int} : (if b > a then b else a) = max a b := by split <;> omega
theorem nested_eq (p : Piece) (gone : List Int) {a b i o : Int} (h1 : p.centred a b = true) (h2 : p.sleeved a b = false) (h3 : p.level a b = false) (hi : (if (p.wh a).sleeve > (p.wh b).sleeve then b else a) = i) (ho : (if (p.wh a).sleeve > (p.wh b).sleeve then a else b) = o) :
  p.nested gone a b = inR (p.wh i).layer ((p.bounds gone o 0 p.ws ((p.wh o).layer, (p.wh o).layer)).1 + 1) ((p.bounds gone o 0 p.ws ((p.wh o).layer, (p.wh o).layer)).2 - 1) := by
 simp only [Piece.nested, h1, h2, h3, hi, ho, Bool.not_true, Bool.or_self, Bool.false_eq_true, if_false]
set_option maxRecDepth 10000 in
set_option maxHeartbeats 1000000 in
theorem laid_nested_c (l : Laid) (hg : l.p.good) (hgo : l.gone.length ≤ 1000000) (a b : Int) (ha : l.p.isW a) (hb : l.p.isW b) : Pure C F.plate_laid_nested [l.dv, .int .i64 a, .int .i64 b] (.d (.bool (l.p.nested l.gone a b))) [] := by
 have hlw := hg.lw
 have ga := good_wh hg ha
 have gb := good_wh hg hb
 obtain ⟨a1, a2⟩ := id ha
 obtain ⟨b1, b2⟩ := id hb
 refine pure_of_pwp_d mixed rfl ok_plate_laid_nested ?_
 simp only [pc_plate_laid_nested, rs_plate_laid_nested, dv_Laid, RN, qA, qB, qC, qD, qE, qF]
 repeat' first
  | (refine call_d rfl rfl (laid_centred_c l a b ha hb) ?_; try simp only [dv_Wh, getD_map, a1, a2, b1, b2, List.length_map, RN, qA, qB, qC, qD, qE, qF])
  | (refine call_d rfl rfl (laid_sleeved_c l a b ha hb) ?_; try simp only [dv_Wh, getD_map, a1, a2, b1, b2, List.length_map, RN, qA, qB, qC, qD, qE, qF])
  | (refine call_d rfl rfl (laid_level_c l a b ha hb) ?_; try simp only [dv_Wh, getD_map, a1, a2, b1, b2, List.length_map, RN, qA, qB, qC, qD, qE, qF])
  | (refine guard_split (by rfl) (fun hB => ?_) (fun hB => ?_) <;> simp only [hB, dv_Wh, getD_map, a1, a2, b1, b2, List.length_map, RN, qA, qB, qC, qD, qE, qF])
  | (refine cond_split (by rfl) (fun hB => ?_) (fun hB => ?_) <;> simp only [hB, dv_Wh, getD_map, a1, a2, b1, b2, List.length_map, RN, qA, qB, qC, qD, qE, qF])
 any_goals (simp_all [Piece.nested]; done)
 all_goals have hsw := hB
 ·
  refine pwp_range l.p.ws.length (fun i (r : Int × Int) => ⟨[(3, .d (.cptr (laidCells l))), (7, .d (.int .i64 b)), (8, .d (.int .i64 a)), (9, .d (.int .i64 r.1)), (10, .d (.int .i64 r.2)), (65, .d (.slice false (l.p.ws.map Wh.dv))), (66, .d (.int .i64 l.p.ws.length)), (67, .d (.int .i64 i))], ⟨[some ((laidCells l).map .d)], [0], []⟩⟩)
   (fun i r => l.p.bounds l.gone a 0 l.p.ws ((l.p.wh a).layer, (l.p.wh a).layer) = l.p.bounds l.gone a i (l.p.ws.drop i) r ∧ (0 ≤ r.1 ∧ r.1 ≤ 1000) ∧ 0 ≤ r.2 ∧ r.2 ≤ 1000) 0 ((l.p.wh a).layer, (l.p.wh a).layer) (Nat.zero_le _) rfl ⟨rfl, by simp only [Piece.wh]; omega, by simp only [Piece.wh]; omega⟩ (fun i r h1 hix => ?_) (fun r hix => ?_)
  ·obtain ⟨h2, h3, h6⟩ := rng h1 (by omega)
   obtain ⟨hix, hr1, hr2⟩ := hix
   rw [drop_cons h1, Piece.bounds] at hix
   have hwi := hg.ws _ (getD_mem h1)
   have hi : l.p.isW (i : Int) := ⟨h3, by simpa using h1⟩
   simp only [h2, h3, h1, getD_map, Int.toNat_natCast, List.length_map, dv_Wh, laidCells, RN, qA, qB, qC, qD, qE, qF]
   repeat' first
    | (refine call_d rfl rfl (laid_sleeved_c l i a hi ha) ?_; try simp only [h6, RN, qA, qB, qC, qD, qE, qF])
    | (refine call_d rfl rfl (containsInt_c _ _ hgo) ?_; try simp only [h6, RN, qA, qB, qC, qD, qE, qF])
    | (refine guard_split (by rfl) (fun hB => ?_) (fun hB => ?_) <;> simp only [hB, h6, RN, qA, qB, qC, qD, qE, qF])
    | (refine cond_split (by rfl) (fun hB => ?_) (fun hB => ?_) <;> simp only [hB, h6, RN, qA, qB, qC, qD, qE, qF])
   ·refine up_take 1 0 (min r.1 (l.p.ws.getD i default).layer, max r.2 (l.p.ws.getD i default).layer) h1 ?_ ⟨?_, by simp only; omega, by simp only; omega⟩ (by simp) (by simp) rfl rfl
    ·simp only [ifmin, ifmax]; rfl
    ·rw [hix, if_pos (by simp only [*, Bool.and_self])]
   ·refine up_take 1 0 r h1 rfl ⟨?_, hr1, hr2⟩ (by simp) (by simp) rfl rfl
    rw [hix, if_neg (by simp_all)]
   ·refine up_take 1 0 r h1 rfl ⟨?_, hr1, hr2⟩ (by simp) (by simp) rfl rfl
    rw [hix, if_neg (by simp_all)]
  ·obtain ⟨hix, hr1, hr2⟩ := hix
   rw [List.drop_length, Piece.bounds] at hix
   have w1 : IntKind.i64.wrap (r.1 + 1) = r.1 + 1 := w64_in (by omega)
   have w2 : IntKind.i64.wrap (r.2 - 1) = r.2 - 1 := w64_in (by omega)
   simp only [Int.lt_irrefl, laidCells, getD_map, b1, b2, dv_Wh, List.length_map, w1, w2, RN, qA, qB, qC, qD, qE, qF]
   refine call_d rfl rfl (in_c _ _ _) ?_
   rw [nested_eq l.p l.gone (by simp_all) (by simp_all) (by simp_all) (i := b) (o := a) (by rw [if_pos]; simpa [Piece.wh] using hsw) (by rw [if_pos]; simpa [Piece.wh] using hsw), hix]
   rfl
 ·
  refine pwp_range l.p.ws.length (fun i (r : Int × Int) => ⟨[(3, .d (.cptr (laidCells l))), (7, .d (.int .i64 a)), (8, .d (.int .i64 b)), (9, .d (.int .i64 r.1)), (10, .d (.int .i64 r.2)), (65, .d (.slice false (l.p.ws.map Wh.dv))), (66, .d (.int .i64 l.p.ws.length)), (67, .d (.int .i64 i))], ⟨[some ((laidCells l).map .d)], [0], []⟩⟩)
   (fun i r => l.p.bounds l.gone b 0 l.p.ws ((l.p.wh b).layer, (l.p.wh b).layer) = l.p.bounds l.gone b i (l.p.ws.drop i) r ∧ (0 ≤ r.1 ∧ r.1 ≤ 1000) ∧ 0 ≤ r.2 ∧ r.2 ≤ 1000) 0 ((l.p.wh b).layer, (l.p.wh b).layer) (Nat.zero_le _) rfl ⟨rfl, by simp only [Piece.wh]; omega, by simp only [Piece.wh]; omega⟩ (fun i r h1 hix => ?_) (fun r hix => ?_)
  ·obtain ⟨h2, h3, h6⟩ := rng h1 (by omega)
   obtain ⟨hix, hr1, hr2⟩ := hix
   rw [drop_cons h1, Piece.bounds] at hix
   have hwi := hg.ws _ (getD_mem h1)
   have hi : l.p.isW (i : Int) := ⟨h3, by simpa using h1⟩
   simp only [h2, h3, h1, getD_map, Int.toNat_natCast, List.length_map, dv_Wh, laidCells, RN, qA, qB, qC, qD, qE, qF]
   repeat' first
    | (refine call_d rfl rfl (laid_sleeved_c l i b hi hb) ?_; try simp only [h6, RN, qA, qB, qC, qD, qE, qF])
    | (refine call_d rfl rfl (containsInt_c _ _ hgo) ?_; try simp only [h6, RN, qA, qB, qC, qD, qE, qF])
    | (refine guard_split (by rfl) (fun hB => ?_) (fun hB => ?_) <;> simp only [hB, h6, RN, qA, qB, qC, qD, qE, qF])
    | (refine cond_split (by rfl) (fun hB => ?_) (fun hB => ?_) <;> simp only [hB, h6, RN, qA, qB, qC, qD, qE, qF])
   ·refine up_take 1 0 (min r.1 (l.p.ws.getD i default).layer, max r.2 (l.p.ws.getD i default).layer) h1 ?_ ⟨?_, by simp only; omega, by simp only; omega⟩ (by simp) (by simp) rfl rfl
    ·simp only [ifmin, ifmax]; rfl
    ·rw [hix, if_pos (by simp only [*, Bool.and_self])]
   ·refine up_take 1 0 r h1 rfl ⟨?_, hr1, hr2⟩ (by simp) (by simp) rfl rfl
    rw [hix, if_neg (by simp_all)]
   ·refine up_take 1 0 r h1 rfl ⟨?_, hr1, hr2⟩ (by simp) (by simp) rfl rfl
    rw [hix, if_neg (by simp_all)]
  ·obtain ⟨hix, hr1, hr2⟩ := hix
   rw [List.drop_length, Piece.bounds] at hix
   have w1 : IntKind.i64.wrap (r.1 + 1) = r.1 + 1 := w64_in (by omega)
   have w2 : IntKind.i64.wrap (r.2 - 1) = r.2 - 1 := w64_in (by omega)
   simp only [Int.lt_irrefl, laidCells, getD_map, a1, a2, dv_Wh, List.length_map, w1, w2, RN, qA, qB, qC, qD, qE, qF]
   refine call_d rfl rfl (in_c _ _ _) ?_
   rw [nested_eq l.p l.gone (by simp_all) (by simp_all) (by simp_all) (i := a) (o := b) (by rw [if_neg]; simpa [Piece.wh] using hsw) (by rw [if_neg]; simpa [Piece.wh] using hsw), hix]
   rfl
set_option maxRecDepth 10000 in
set_option maxHeartbeats 1000000 in
theorem laid_wrong_c (l : Laid) (hg : l.p.good) (hf : l.fine) (hgo : l.gone.length ≤ 1000000) (a b : Int) (ha : l.p.isW a) (hb : l.p.isW b) : Pure C F.plate_laid_wrong [l.dv, .int .i64 a, .int .i64 b] (.d (.int .i64 (l.p.wrong l.gone a b))) [] := by
 refine pure_of_pwp_d mixed rfl ok_plate_laid_wrong ?_
 by_cases hab : a = b
 ·subst hab
  simp only [pc_plate_laid_wrong, rs_plate_laid_wrong, dv_Laid, beq_self_eq_true, RN, qA, qB, qC, qD, qE, qF]
  repeat' first
   | (refine call_d rfl rfl (laid_edged_c l hg a ha) ?_; try simp only [RN, qA, qB, qC, qD, qE, qF])
   | (refine guard_split (by rfl) (fun hB => ?_) (fun hB => ?_) <;> simp only [hB, RN, qA, qB, qC, qD, qE, qF])
   | (refine cond_split (by rfl) (fun hB => ?_) (fun hB => ?_) <;> simp only [hB, RN, qA, qB, qC, qD, qE, qF])
  all_goals (first | (simp only [Piece.wrong, *, Bool.not_true, Bool.not_false, Bool.not_not, Bool.and_true, Bool.true_and, Bool.and_false, Bool.false_and, Bool.or_true, Bool.true_or, Bool.or_false, Bool.false_or, Bool.and_self, Bool.or_self, if_true, if_false, reduceIte, cond_true, cond_false, Bool.false_eq_true]; done) | (simp_all [Piece.wrong]; done) | (simp_all [Piece.wrong]; omega))
 ·have hne : (a == b) = false := by simpa using hab
  simp only [pc_plate_laid_wrong, rs_plate_laid_wrong, dv_Laid, hne, RN, qA, qB, qC, qD, qE, qF]
  refine pwp_range 5 (fun i (_ : Unit) => ⟨[(1, .d (.int .i64 a)), (2, .d (.int .i64 b)), (25, .d (.agg [.func (.func F.plate_laid_apart) [l.dv] [], .func (.func F.plate_laid_touch) [l.dv] [], .func (.func F.plate_laid_same) [l.dv] [], .func (.func F.plate_laid_nested) [l.dv] [], .func (.func F.plate_laid_posted) [l.dv] []])), (26, .d (.int .i64 i))], ⟨[some ((laidCells l).map .d)], [0], []⟩⟩)
   (fun i _ => (0 < i → l.p.apart a b = false) ∧ (1 < i → l.p.touch a b = false) ∧ (2 < i → l.p.same a b = false) ∧ (3 < i → l.p.nested l.gone a b = false) ∧ (4 < i → l.p.posted a b = false)) 0 () (by decide) rfl ⟨by omega, by omega, by omega, by omega, by omega⟩ (fun i _ h1 hP => ?_) (fun _ hP => ?_)
  ·obtain ⟨p0, p1, p2, p3, p4⟩ := hP
   have c0 : ((0 : Nat) : Int) = 0 := rfl
   have c1 : ((1 : Nat) : Int) = 1 := rfl
   have c2 : ((2 : Nat) : Int) = 2 := rfl
   have c3 : ((3 : Nat) : Int) = 3 := rfl
   have c4 : ((4 : Nat) : Int) = 4 := rfl
   have c5 : ((5 : Nat) : Int) = 5 := rfl
   rcases i with _ | _ | _ | _ | _ | i
   ·have e1 : IntKind.i64.wrap ((0 : Int) + 1) = 1 := by decide
    have e2 : IntKind.i64.wrap (2 + (0 : Int)) = 2 := by decide
    simp only [laidCells, Nat.reduceAdd, Nat.zero_add, c0, c1, c2, c3, c4, c5, Int.reduceLT, Int.reduceLE, Int.le_refl, Int.reduceToNat, Int.toNat_zero, Int.toNat_one, Nat.zero_mul, Nat.one_mul, Nat.reduceMul, RN, qA, qB, qC, qD, qE, qF]
    repeat' first
     | (refine callV_d rfl (by kernel_rfl) rfl (laid_apart_c l hg hf a b ha hb) ?_; try simp only [e1, e2, RN, qA, qB, qC, qD, qE, qF])
     | (refine guard_split (by rfl) (fun hB => ?_) (fun hB => ?_) <;> simp only [hB, e1, e2, RN, qA, qB, qC, qD, qE, qF])
     | (refine cond_split (by rfl) (fun hB => ?_) (fun hB => ?_) <;> simp only [hB, e1, e2, RN, qA, qB, qC, qD, qE, qF])
    ·simp only [Piece.wrong, if_neg hab,  hB, if_true, if_false, Bool.false_eq_true]
    ·exact up_same () h1 rfl ⟨by first | exact fun _ => trivial | exact fun _ => hB | (intro _; trivial), by omega, by omega, by omega, by omega⟩ (by simp) (by simp) rfl rfl
   ·have e1 : IntKind.i64.wrap ((1 : Int) + 1) = 2 := by decide
    have e2 : IntKind.i64.wrap (2 + (1 : Int)) = 3 := by decide
    simp only [laidCells, Nat.reduceAdd, Nat.zero_add, c0, c1, c2, c3, c4, c5, Int.reduceLT, Int.reduceLE, Int.le_refl, Int.reduceToNat, Int.toNat_zero, Int.toNat_one, Nat.zero_mul, Nat.one_mul, Nat.reduceMul, RN, qA, qB, qC, qD, qE, qF]
    repeat' first
     | (refine callV_d rfl (by kernel_rfl) rfl (laid_touch_c l hg hf a b ha hb) ?_; try simp only [e1, e2, RN, qA, qB, qC, qD, qE, qF])
     | (refine guard_split (by rfl) (fun hB => ?_) (fun hB => ?_) <;> simp only [hB, e1, e2, RN, qA, qB, qC, qD, qE, qF])
     | (refine cond_split (by rfl) (fun hB => ?_) (fun hB => ?_) <;> simp only [hB, e1, e2, RN, qA, qB, qC, qD, qE, qF])
    ·simp only [Piece.wrong, if_neg hab, p0 (by omega),  hB, if_true, if_false, Bool.false_eq_true]
    ·exact up_same () h1 rfl ⟨fun _ => p0 (by omega), by first | exact fun _ => trivial | exact fun _ => hB | (intro _; trivial), by omega, by omega, by omega⟩ (by simp) (by simp) rfl rfl
   ·have e1 : IntKind.i64.wrap ((2 : Int) + 1) = 3 := by decide
    have e2 : IntKind.i64.wrap (2 + (2 : Int)) = 4 := by decide
    simp only [laidCells, Nat.reduceAdd, Nat.zero_add, c0, c1, c2, c3, c4, c5, Int.reduceLT, Int.reduceLE, Int.le_refl, Int.reduceToNat, Int.toNat_zero, Int.toNat_one, Nat.zero_mul, Nat.one_mul, Nat.reduceMul, RN, qA, qB, qC, qD, qE, qF]
    repeat' first
     | (refine callV_d rfl (by kernel_rfl) rfl (laid_same_c l a b ha hb) ?_; try simp only [e1, e2, RN, qA, qB, qC, qD, qE, qF])
     | (refine guard_split (by rfl) (fun hB => ?_) (fun hB => ?_) <;> simp only [hB, e1, e2, RN, qA, qB, qC, qD, qE, qF])
     | (refine cond_split (by rfl) (fun hB => ?_) (fun hB => ?_) <;> simp only [hB, e1, e2, RN, qA, qB, qC, qD, qE, qF])
    ·simp only [Piece.wrong, if_neg hab, p0 (by omega), p1 (by omega),  hB, if_true, if_false, Bool.false_eq_true]
    ·exact up_same () h1 rfl ⟨fun _ => p0 (by omega), fun _ => p1 (by omega), by first | exact fun _ => trivial | exact fun _ => hB | (intro _; trivial), by omega, by omega⟩ (by simp) (by simp) rfl rfl
   ·have e1 : IntKind.i64.wrap ((3 : Int) + 1) = 4 := by decide
    have e2 : IntKind.i64.wrap (2 + (3 : Int)) = 5 := by decide
    simp only [laidCells, Nat.reduceAdd, Nat.zero_add, c0, c1, c2, c3, c4, c5, Int.reduceLT, Int.reduceLE, Int.le_refl, Int.reduceToNat, Int.toNat_zero, Int.toNat_one, Nat.zero_mul, Nat.one_mul, Nat.reduceMul, RN, qA, qB, qC, qD, qE, qF]
    repeat' first
     | (refine callV_d rfl (by kernel_rfl) rfl (laid_nested_c l hg hgo a b ha hb) ?_; try simp only [e1, e2, RN, qA, qB, qC, qD, qE, qF])
     | (refine guard_split (by rfl) (fun hB => ?_) (fun hB => ?_) <;> simp only [hB, e1, e2, RN, qA, qB, qC, qD, qE, qF])
     | (refine cond_split (by rfl) (fun hB => ?_) (fun hB => ?_) <;> simp only [hB, e1, e2, RN, qA, qB, qC, qD, qE, qF])
    ·simp only [Piece.wrong, if_neg hab, p0 (by omega), p1 (by omega), p2 (by omega),  hB, if_true, if_false, Bool.false_eq_true]
    ·exact up_same () h1 rfl ⟨fun _ => p0 (by omega), fun _ => p1 (by omega), fun _ => p2 (by omega), by first | exact fun _ => trivial | exact fun _ => hB | (intro _; trivial), by omega⟩ (by simp) (by simp) rfl rfl
   ·have e1 : IntKind.i64.wrap ((4 : Int) + 1) = 5 := by decide
    have e2 : IntKind.i64.wrap (2 + (4 : Int)) = 6 := by decide
    simp only [laidCells, Nat.reduceAdd, Nat.zero_add, c0, c1, c2, c3, c4, c5, Int.reduceLT, Int.reduceLE, Int.le_refl, Int.reduceToNat, Int.toNat_zero, Int.toNat_one, Nat.zero_mul, Nat.one_mul, Nat.reduceMul, RN, qA, qB, qC, qD, qE, qF]
    repeat' first
     | (refine callV_d rfl (by kernel_rfl) rfl (laid_posted_c l hg a b ha hb) ?_; try simp only [e1, e2, RN, qA, qB, qC, qD, qE, qF])
     | (refine guard_split (by rfl) (fun hB => ?_) (fun hB => ?_) <;> simp only [hB, e1, e2, RN, qA, qB, qC, qD, qE, qF])
     | (refine cond_split (by rfl) (fun hB => ?_) (fun hB => ?_) <;> simp only [hB, e1, e2, RN, qA, qB, qC, qD, qE, qF])
    ·simp only [Piece.wrong, if_neg hab, p0 (by omega), p1 (by omega), p2 (by omega), p3 (by omega),  hB, if_true, if_false, Bool.false_eq_true]
    ·exact up_same () h1 rfl ⟨fun _ => p0 (by omega), fun _ => p1 (by omega), fun _ => p2 (by omega), fun _ => p3 (by omega), by first | exact fun _ => trivial | exact fun _ => hB | (intro _; trivial)⟩ (by simp) (by simp) rfl rfl
   ·omega
  ·obtain ⟨p0, p1, p2, p3, p4⟩ := hP
   have p0 := p0 (by omega)
   have p1 := p1 (by omega)
   have p2 := p2 (by omega)
   have p3 := p3 (by omega)
   have p4 := p4 (by omega)
   have c5 : ((5 : Nat) : Int) = 5 := rfl
   simp only [laidCells, c5, Int.lt_irrefl, RN, qA, qB, qC, qD, qE, qF]
   simp only [Piece.wrong, if_neg hab, p0, p1, p2, p3, p4, if_false, Bool.false_eq_true]
end Go.Tel
