/-
  Part 24 of the proof of a law of plates: an abstract machine over the model, contracts of functions, plain laws.
  Conditions: none.
-/
import Derived.Test.YticjmjdcggomgaaGreatDoorM23
import Derived.Ground.NamesProg
import Derived.Shelf.Strings.Split
import Derived.Shelf.Strings.OnBuilder
import Derived.Shelf.Strconv.Itoa3
import Derived.Lib.ItoaLen
import Derived.Laws.RangeString
import Derived.Laws.RangeAny
set_option linter.all false
open Nat renaming reduceBEq → qA, reduceAdd → qB, reduceSub → qC, reduceEqDiff → qD, reduceLT → qE, reduceLeDiff → qF
namespace Go.Tel
open Go.Am
def marksOk (holes steps cuts : Int) (starts : List Int) : Bool := inR holes 1 120 && inR steps 0 holes && inR cuts 1 120 && inR starts.length 1 4 && starts.all fun n => inR n 0 (holes - 1)
def rawRow (holes steps s : Int) (c : Nat) : List Int := (List.range c).map fun (i : Nat) => (s + (i : Int) * steps).tmod holes
def rawMarks (holes steps : Int) (c : Nat) : List Int → List Int
 | [] => []
 | s :: l => rawRow holes steps s c ++ rawMarks holes steps c l
def gapsL (holes first : Int) : List Int → List Int
 | [] => []
 | [n] => [first + holes - n]
 | n :: m :: l => (m - n) :: gapsL holes first (m :: l)
def outMarks (holes steps cuts : Int) (starts : List Int) : List Int := compactL ((rawMarks holes steps cuts.toNat starts).mergeSort fun x y => decide (x ≤ y))
structure Sp where
 low : Int
 high : Int
 deriving DecidableEq, Inhabited
def Sp.dv (s : Sp) : DV := .agg [.int .i64 s.low, .int .i64 s.high]
def marksS (holes steps cuts : Int) (starts : List Int) : List Int × Sp × Int :=
 if marksOk holes steps cuts starts then (outMarks holes steps cuts starts, ⟨minL (gapsL holes ((outMarks holes steps cuts starts).getD 0 default) (outMarks holes steps cuts starts)), maxL (gapsL holes ((outMarks holes steps cuts starts).getD 0 default) (outMarks holes steps cuts starts))⟩, 0)
 else ([], ⟨0, 0⟩, 2)
theorem cmpct_mem : ∀ {l : List Int} {p x : Int}, x ∈ cmpct p l → x ∈ l
 | [], _, _, h => by simp [cmpct] at h
 | y :: l, p, x, h => by
  rw [cmpct] at h
  split at h
  ·exact List.mem_cons_of_mem _ (cmpct_mem h)
  ·rcases List.mem_cons.1 h with rfl | h
   ·exact List.mem_cons_self
   ·exact List.mem_cons_of_mem _ (cmpct_mem h)
theorem cmpct_len : ∀ {l : List Int} {p : Int}, (cmpct p l).length ≤ l.length
 | [], _ => by simp [cmpct]
 | y :: l, p => by
  rw [cmpct]
  split
  ·exact Nat.le_succ_of_le cmpct_len
  ·simp only [List.length_cons]; exact Nat.succ_le_succ cmpct_len
theorem compactL_mem {l : List Int} {x : Int} (h : x ∈ compactL l) : x ∈ l := by
 cases l with
 | nil => simp [compactL] at h
 | cons y l =>
  rw [compactL] at h
  rcases List.mem_cons.1 h with rfl | h
  ·exact List.mem_cons_self
  ·exact List.mem_cons_of_mem _ (cmpct_mem h)
theorem compactL_len {l : List Int} : (compactL l).length ≤ l.length ∧ (1 ≤ l.length → 1 ≤ (compactL l).length) := by
 cases l with
 | nil => simp [compactL]
 | cons y l => simp only [compactL, List.length_cons]; exact ⟨Nat.succ_le_succ cmpct_len, fun _ => by omega⟩
theorem rawMarks_mem {holes steps : Int} {c : Nat} (hh : 1 ≤ holes) (hst : 0 ≤ steps) : ∀ {starts : List Int}, (∀ s ∈ starts, 0 ≤ s) → ∀ x ∈ rawMarks holes steps c starts, 0 ≤ x ∧ x < holes
 | [], _, x, h => by simp [rawMarks] at h
 | s :: l, hs, x, h => by
  rw [rawMarks, List.mem_append] at h
  rcases h with h | h
  ·obtain ⟨j, _, rfl⟩ := List.mem_map.1 h
   have h0 : 0 ≤ s + (j : Int) * steps := Int.add_nonneg (hs s List.mem_cons_self) (Int.mul_nonneg (by omega) hst)
   exact ⟨Int.tmod_nonneg _ h0, Int.tmod_lt_of_pos _ (by omega)⟩
  ·exact rawMarks_mem hh hst (fun s' h' => hs s' (List.mem_cons_of_mem _ h')) x h
set_option maxRecDepth 10000 in
theorem Marks_1_c (n holes : Int) (hw : IntKind.i64.wrap (holes - 1) = holes - 1) : Pure C F.plate_Marks_1 [.int .i64 n, .cptr [.int .i64 holes]] (.d (.bool (!inR n 0 (holes - 1)))) [] := by
 refine pure_of_pwp_d mixed rfl ok_plate_Marks_1 ?_
 simp only [pc_plate_Marks_1, rs_plate_Marks_1, hw, RN, qA, qB, qC, qD, qE, qF]
 refine call_d rfl rfl (in_c _ _ _) ?_
 simp only [RN, qA, qB, qC, qD, qE, qF]
set_option maxRecDepth 10000 in
set_option maxHeartbeats 2000000 in
theorem Marks_c (holes steps cuts : Int) (starts : List Int) (hl : starts.length ≤ 1000) : Pure C F.plate_Marks [.int .i64 holes, .int .i64 steps, .int .i64 cuts, .slice false (starts.map intDV)]
  (.d (.tup [.slice false ((marksS holes steps cuts starts).1.map intDV), (marksS holes steps cuts starts).2.1.dv, .int .i64 (marksS holes steps cuts starts).2.2])) [] := by
 refine pure_of_pwp_f mixed rfl ok_plate_Marks ?_
 have bad : marksOk holes steps cuts starts = false → datum ⟨[some [.d (.int .i64 holes)], some [.d (.int .i64 0), .d (.int .i64 0)]], [0], [some ⟨1, [], 0, 0⟩, some ⟨1, [], 0, 0⟩]⟩
   (tupO (allD [PV.tsl 1 0 0, .d (.agg [.int .i64 0, .int .i64 0]), .d (.int .i64 2)]) [PV.tsl 1 0 0, .d (.agg [.int .i64 0, .int .i64 0]), .d (.int .i64 2)]) =
   some (.tup [.slice false ((marksS holes steps cuts starts).1.map intDV), (marksS holes steps cuts starts).2.1.dv, .int .i64 (marksS holes steps cuts starts).2.2]) := by
  intro hb
  rw [marksS, if_neg (by rw [hb]; decide)]
  rfl
 simp only [pc_plate_Marks, rs_plate_Marks, RN, qA, qB, qC, qD, qE, qF]
 refine call_d rfl rfl (in_c _ _ _) ?_
 cases h1 : inR holes 1 120
 ·simp only [RN, qA, qB, qC, qD, qE, qF]
  exact bad (by simp [marksOk, h1])
 have hh : 1 ≤ holes ∧ holes ≤ 120 := by simpa [inR] using h1
 have hw : IntKind.i64.wrap (holes - 1) = holes - 1 := w64_in (by omega)
 simp only [RN, qA, qB, qC, qD, qE, qF]
 refine call_d rfl rfl (in_c _ _ _) ?_
 cases h2 : inR steps 0 holes
 ·simp only [RN, qA, qB, qC, qD, qE, qF]
  exact bad (by simp [marksOk, h1, h2])
 simp only [RN, qA, qB, qC, qD, qE, qF]
 refine call_d rfl rfl (in_c _ _ _) ?_
 cases h3 : inR cuts 1 120
 ·simp only [RN, qA, qB, qC, qD, qE, qF]
  exact bad (by simp [marksOk, h1, h2, h3])
 simp only [List.length_map, RN, qA, qB, qC, qD, qE, qF]
 refine call_d rfl rfl (in_c _ _ _) ?_
 cases h4 : inR starts.length 1 4
 ·simp only [RN, qA, qB, qC, qD, qE, qF]
  exact bad (by simp [marksOk, h1, h2, h3, h4])
 simp only [RN, qA, qB, qC, qD, qE, qF]
 refine call_d rfl rfl (containsFInt_c starts _ [.cptr [.int .i64 holes]] (fun n => !inR n 0 (holes - 1)) (by omega) (by kernel_rfl) (fun n _ => Marks_1_c n holes hw)) ?_
 rw [any_not]
 cases h5 : starts.all fun n => inR n 0 (holes - 1)
 ·simp only [RN, qA, qB, qC, qD, qE, qF]
  exact bad (by simp [marksOk, h1, h2, h3, h4, h5])
 simp only [List.length_map, RN, qA, qB, qC, qD, qE, qF]
 have hok : marksOk holes steps cuts starts = true := by simp [marksOk, h1, h2, h3, h4, h5]
 have hst : 0 ≤ steps ∧ steps ≤ holes := by simpa [inR] using h2
 have hcu : 1 ≤ cuts ∧ cuts ≤ 120 := by simpa [inR] using h3
 obtain ⟨c, rfl⟩ := Int.eq_ofNat_of_zero_le (show 0 ≤ cuts by omega)
 have hsl : 1 ≤ starts.length ∧ starts.length ≤ 4 := by
  have : 1 ≤ (starts.length : Int) ∧ (starts.length : Int) ≤ 4 := by simpa [inR] using h4
  omega
 have hss : ∀ s ∈ starts, 0 ≤ s ∧ s ≤ holes - 1 := by
  intro s hs
  have := List.all_eq_true.1 h5 s hs
  simpa [inR] using this
 refine pwp_range starts.length (fun i (q : List Int × Nat) => ⟨[(1, .d (.int .i64 steps)), (2, .d (.int .i64 c)), (4, .d (.cptr [.int .i64 holes])), (9, .ptr 1 0), (11, .tsl 1 q.2 0), (45, .d (.slice false (starts.map intDV))), (46, .d (.int .i64 starts.length)), (47, .d (.int .i64 i))],
   ⟨cpB holes, [0], [some ⟨1, [], 0, 0⟩, some ⟨1, q.1.map intDV, q.2, min q.1.length 1⟩]⟩⟩)
  (fun i q => rawMarks holes steps c starts = q.1 ++ rawMarks holes steps c (starts.drop i) ∧ q.1.length = i * c) 0 ([], 0) (Nat.zero_le _) rfl ⟨rfl, by simp⟩ (fun i q g1 hix => ?_) (fun q hix => ?_)
 ·obtain ⟨zs, ver⟩ := q
  obtain ⟨r1, r2⟩ := hix
  simp only at r1 r2
  obtain ⟨g2, g3, g6⟩ := rng g1 (by omega)
  rw [drop_cons g1, rawMarks] at r1
  have hs := hss _ (getD_mem g1)
  simp only [g2, g3, g1, getD_map, Int.toNat_natCast, List.length_map, dv_int, RN, qA, qB, qC, qD, qE, qF]
  generalize starts.getD i default = s at *
  refine pwp_range c (fun j (q : List Int × Nat) => ⟨[(1, .d (.int .i64 steps)), (2, .d (.int .i64 c)), (4, .d (.cptr [.int .i64 holes])), (9, .ptr 1 0), (11, .tsl 1 q.2 0), (13, .d (.int .i64 s)), (45, .d (.slice false (starts.map intDV))), (46, .d (.int .i64 starts.length)), (47, .d (.int .i64 i)), (51, .d (.int .i64 c)), (52, .d (.int .i64 j))],
   ⟨cpB holes, [0], [some ⟨1, [], 0, 0⟩, some ⟨1, q.1.map intDV, q.2, min q.1.length 1⟩]⟩⟩)
   (fun j q => q.1 = zs ++ rawRow holes steps s j) 0 (zs, ver) (Nat.zero_le _) rfl (by simp [rawRow]) (fun j q e1 hjx => ?_) (fun q hjx => ?_)
  ·obtain ⟨zs', ver'⟩ := q
   simp only at hjx
   obtain ⟨e2, e3, e6⟩ := rng e1 (by omega)
   have hjs : 0 ≤ (j : Int) * steps ∧ (j : Int) * steps ≤ 120 * 120 := ⟨Int.mul_nonneg e3 hst.1, Int.mul_le_mul (by omega) (by omega) hst.1 (by omega)⟩
   have v1 : IntKind.i64.wrap ((j : Int) * steps) = (j : Int) * steps := w64_in (by omega)
   have v2 : IntKind.i64.wrap (s + (j : Int) * steps) = s + (j : Int) * steps := w64_in (by omega)
   have v3 : holes ≠ 0 := by omega
   have hzl : zs'.length = i * c + j := by rw [hjx]; simp [rawRow, r2]
   have hic : i * c ≤ 4 * 120 := Nat.mul_le_mul (by omega) (by omega)
   have hst2 : min zs'.length 1 ≠ 2 := by omega
   simp only [e2, v1, v2, v3, ev_mkSl1, fits_int, forall_eq, DV.strip, dcells_int, List.length_map, RN, qA, qB, qC, qD, qE, qF]
   refine ⟨by simp, hst2, by omega, ?_⟩
   simp only [e6, RN, qA, qB, qC, qD, qE, qF]
   refine up_same (zs' ++ [(s + (j : Int) * steps).tmod holes], ver' + 1) e1 ?_ ?_ (by simp [cpB]) (by simp) rfl rfl
   ·simp only [List.map_append, List.map_cons, List.map_nil, dv_int, List.length_append, List.length_cons, List.length_nil, show min (zs'.length + (0 + 1)) 1 = 1 by omega]
    rfl
   ·simp only [hjx, rawRow, List.range_succ, List.map_append, List.map_cons, List.map_nil, List.append_assoc]
  ·obtain ⟨zs', ver'⟩ := q
   simp only at hjx
   simp only [Int.lt_irrefl, g6, RN, qA, qB, qC, qD, qE, qF]
   refine up_same (zs', ver') g1 rfl ⟨?_, ?_⟩ (by simp [cpB]) (by simp) rfl rfl
   ·rw [hjx, r1, List.append_assoc]
   ·rw [hjx, List.length_append, r2, Nat.succ_mul]; simp [rawRow]
 ·obtain ⟨zs, ver⟩ := q
  obtain ⟨r1, r2⟩ := hix
  simp only at r1 r2
  rw [List.drop_length, rawMarks, List.append_nil] at r1
  have hzl : 1 ≤ zs.length ∧ zs.length ≤ 480 := by
   have h1 : 1 * 1 ≤ starts.length * c := Nat.mul_le_mul hsl.1 (by omega)
   have h2 : starts.length * c ≤ 4 * 120 := Nat.mul_le_mul hsl.2 (by omega)
   omega
  have hm1 : min zs.length 1 = 1 := by omega
  simp only [Int.lt_irrefl, hm1, RN, qA, qB, qC, qD, qE, qF]
  refine Sort_sc (zs := zs) rfl (by intro h; rw [h] at hzl; simp at hzl) (by omega) ?_
  simp only [RN, qA, qB, qC, qD, qE, qF]
  refine Compact_sc _ (by rw [List.length_mergeSort]; omega) holes ver (fun es => ?_)
  have hout : compactL (zs.mergeSort fun x y => decide (x ≤ y)) = outMarks holes steps c starts := by rw [outMarks, Int.toNat_natCast, r1]
  rw [hout]
  have hol : 1 ≤ (outMarks holes steps c starts).length ∧ (outMarks holes steps c starts).length ≤ 480 := by
   have := compactL_len (l := zs.mergeSort fun x y => decide (x ≤ y))
   rw [hout, List.length_mergeSort] at this
   exact ⟨this.2 hzl.1, by omega⟩
  have hob : ∀ x ∈ outMarks holes steps c starts, 0 ≤ x ∧ x ≤ 119 := by
   intro x hx
   rw [← hout] at hx
   have := List.mem_mergeSort.1 (compactL_mem hx)
   rw [← r1] at this
   have := rawMarks_mem hh.1 hst.1 (fun s hs => (hss s hs).1) x this
   omega
  generalize hO : outMarks holes steps c starts = out at *
  generalize hF : out.getD 0 default = first at *
  have hfb : 0 ≤ first ∧ first ≤ 119 := by rw [← hF]; exact hob _ (getD_mem (by omega))
  have l0 : 0 < out.length := by omega
  have wf : IntKind.i64.wrap (first + holes) = first + holes := w64_in (by omega)
  have z0 : (0 : Int) ≤ 0 := by decide
  simp only [cpB, RN, qA, qB, qC, qD, qE, qF]
  refine pwp_range out.length (fun i (q : List Int × Nat) => ⟨[(4, .d (.cptr [.int .i64 holes])), (9, .ptr 1 0), (11, .d (.slice false (out.map intDV))), (15, .tsl 2 q.2 0), (71, .d (.slice false (out.map intDV))), (72, .d (.int .i64 out.length)), (73, .d (.int .i64 i))],
   ⟨cpB holes, [0], [some ⟨1, [], 0, 0⟩, some ⟨1, es, ver, 2⟩, some ⟨1, q.1.map intDV, q.2, 0⟩]⟩⟩)
   (fun i q => gapsL holes first out = q.1 ++ gapsL holes first (out.drop i) ∧ q.1.length = i) 0 ([], 0) (Nat.zero_le _) (by simp only [List.length_map]; rfl) ⟨rfl, rfl⟩ (fun i q g1 hix => ?_) (fun q hix => ?_)
  ·obtain ⟨gs, ver'⟩ := q
   obtain ⟨p1, p2⟩ := hix
   simp only at p1 p2
   obtain ⟨g2, g3, g6⟩ := rng g1 (by omega)
   have hxb := hob _ (getD_mem g1)
   have hgl : gs.length + 1 ≤ 1073741824 := by omega
   rw [drop_cons g1] at p1
   simp only [g2, g3, g1, getD_map, Int.toNat_natCast, List.length_map, dv_int, z0, Int.toNat_zero, l0, hF, wf, g6, RN, qA, qB, qC, qD, qE, qF]
   by_cases hlt : i + 1 < out.length
   ·have c1 : ((i + 1 : Nat) : Int) < (out.length : Int) := by omega
    have c0 : (0 : Int) ≤ ((i + 1 : Nat) : Int) := by omega
    have hyb := hob _ (getD_mem hlt)
    have wd : IntKind.i64.wrap (out.getD (i + 1) default - out.getD i default) = out.getD (i + 1) default - out.getD i default := w64_in (by omega)
    rw [drop_cons hlt, gapsL, ← drop_cons hlt] at p1
    simp only [c1, c0, hlt, getD_map, Int.toNat_natCast, List.length_map, dv_int, g6, wd, ev_mkSl1, fits_int, forall_eq, DV.strip, dcells_int, RN, qA, qB, qC, qD, qE, qF]
    refine ⟨by simp, by omega, ?_⟩
    refine up_same (gs ++ [out.getD (i + 1) default - out.getD i default], ver' + 1) g1 ?_ ⟨?_, by simp [p2]⟩ (by simp [cpB]) (by simp) rfl rfl
    ·simp only [List.map_append, List.map_cons, List.map_nil, dv_int]; rfl
    ·rw [p1, List.append_assoc]; rfl
   ·have c1 : ¬ ((i + 1 : Nat) : Int) < (out.length : Int) := by omega
    have wd : IntKind.i64.wrap (first + holes - out.getD i default) = first + holes - out.getD i default := w64_in (by omega)
    rw [List.drop_of_length_le (by omega), gapsL] at p1
    simp only [c1, List.length_map, g6, wd, ev_mkSl1, fits_int, forall_eq, DV.strip, dcells_int, RN, qA, qB, qC, qD, qE, qF]
    refine ⟨by simp, by omega, ?_⟩
    refine up_same (gs ++ [first + holes - out.getD i default], ver' + 1) g1 ?_ ⟨?_, by simp [p2]⟩ (by simp [cpB]) (by simp) rfl rfl
    ·simp only [List.map_append, List.map_cons, List.map_nil, dv_int]; rfl
    ·rw [List.drop_of_length_le (by omega), gapsL, List.append_nil, p1]
  ·obtain ⟨gs, ver'⟩ := q
   obtain ⟨p1, p2⟩ := hix
   simp only at p1 p2
   rw [List.drop_length, gapsL, List.append_nil] at p1
   simp only [Int.lt_irrefl, RN, qA, qB, qC, qD, qE, qF]
   refine call_f (datumL_t rfl rfl) rfl (minL_c gs (by omega) (by omega)) rfl ?_
   simp only [RN, qA, qB, qC, qD, qE, qF]
   refine call_f (datumL_t rfl rfl) rfl (maxL_c gs (by omega) (by omega)) rfl ?_
   simp only [cpB, RN, qA, qB, qC, qD, qE, qF]
   rw [marksS, if_pos hok, hO, hF, p1]
   rfl
end Go.Tel
namespace Go.Proofs
open Go.Shelf Go.RowKit Go.Lib
theorem Tryz.joinExtra : Builder.Extra Tryz.prog Tryz.laysJoin_ren := {
 sizeBuilder := by kernel_rfl
 liesBuilder := by kernel_rfl
 t5 := by kernel_rfl
 a5 := Tryz.isAgg5
 z5 := Tryz.sizeOf5
 v5 := Tryz.zeroValue5
 infoByte := by kernel_rfl
 cellsByte := by kernel_rfl
 sizeByte := by kernel_rfl
 neB5 := by decide }
section
variable {P : Program} {ρ : Ren}
set_option maxHeartbeats 1000000 in
theorem split_one (L : Lays.n146 P ρ) (hi9 : (P.info? (ρ.t 9)).map (fun i => (i.zero, i.size, i.bytes)) = some (some (.string ByteArray.empty), 1, 16)) (s : ByteArray) (ch : UInt8) (w : World) (hs : s.size < 4294967281) :
  Calls P (ρ.f 146) #[.string s, .string ⟨#[ch]⟩] w fun e w' =>
   e = .returned (.slice (some ⟨w.heap.size, 0, none⟩) (Lib.countB s ⟨#[ch]⟩ + 1) (Lib.countB s ⟨#[ch]⟩ + 1)) ∧ w' = w.alloc (.cells ((Lib.splitB ⟨#[ch]⟩ 0 (Lib.countB s ⟨#[ch]⟩) s).map Value.string).toArray (ρ.t 9)) := by
 have h1 : 1 ≤ (⟨#[ch]⟩ : ByteArray).size := Nat.le_refl _
 have hle := Lib.countB_le ⟨#[ch]⟩ h1 s.size s (Nat.le_refl _)
 have hlen := Lib.splitB_all ⟨#[ch]⟩ h1 0 _ s rfl
 have c := Any.strings_genSplit_core { L with } hi9 s ⟨#[ch]⟩ 0 (-1) (Lib.countB s ⟨#[ch]⟩ + 1) w hs h1 (Nat.zero_le _)
  (fun x cs _ => (Any.strings_Index_one { L with } x ch _).mono fun e w' ⟨he, hw⟩ => ⟨by rw [he]; show _ = Ending.returned (Value.int .i64 (Lib.index x.data.toList [ch])); rw [Lib.index_one], hw⟩)
  ((Any.strings_Count_one { L with } s ch w).mono fun e w' ⟨he, hw⟩ => ⟨by rw [he]; show _ = Ending.returned (Value.int .i64 ((Lib.count s.data.toList [ch] : Nat) : Int)); rw [Lib.count_one]; rfl, hw⟩)
  (by decide) (by decide) (by rw [if_pos (by decide)]; omega)
 rw [Nat.add_sub_cancel, hlen] at c
 have e2 : Lib.cellsOf (Lib.splitB ⟨#[ch]⟩ 0 (Lib.countB s ⟨#[ch]⟩) s) (Lib.countB s ⟨#[ch]⟩ + 1) = ((Lib.splitB ⟨#[ch]⟩ 0 (Lib.countB s ⟨#[ch]⟩) s).map Value.string).toArray := by rw [← hlen]; exact Lib.cellsOf_full _
 rw [e2] at c
 have t3 := L.t3; have t9 := L.t9; have t31 := L.t31
 have a3 := L.a3; have a9 := L.a9; have a31 := L.a31
 have z3 := L.z3; have v3 := L.v3; have z9 := L.z9; have v9 := L.v9; have z31 := L.z31; have v31 := L.v31
 have e221 : ∀ args w, (callFunc (ρ.f 221) args).run P w = .ok (.enter (ρ.f 221) args) w := enters_of L.f221 (by kernel_rfl) rfl
 go_enter L.f146, Body.n146_ntmps ρ
 go_wp2_with (go_at_fn (ρ.f 221); refine c.mono ?_; rintro e w' ⟨rfl, hw⟩; rw [hw])
 go_ret
 exact ⟨rfl, rfl⟩
end
end Go.Proofs
namespace Go.Tel
open Go.Am
def splitS (s : ByteArray) (c : UInt8) : List ByteArray := Go.Lib.splitB ⟨#[c]⟩ 0 (Go.Lib.countB s ⟨#[c]⟩) s
theorem splitS_len (s : ByteArray) (c : UInt8) : (splitS s c).length = Go.Lib.countB s ⟨#[c]⟩ + 1 := Go.Lib.splitB_all ⟨#[c]⟩ (Nat.le_refl _) 0 _ s rfl
theorem repL_strs {w : World} {O : Nat → Prop} : ∀ xs : List ByteArray, RepL w O (xs.map Value.string) (xs.map DV.str)
 | [] => .nil
 | x :: xs => .cons (.str _) (repL_strs xs)
theorem flat_strs : ∀ xs : List ByteArray, flat (xs.map DV.str) = xs.map DV.str
 | [] => rfl
 | x :: xs => by
  have := flat_strs xs
  simp only [flat] at this ⊢
  simp only [List.map_cons, List.flatMap_cons, this]
  rfl
theorem Split_c (s : ByteArray) (c : UInt8) (hs : s.size ≤ 1000000) : Am.Pure Go.Tel.C F.strings_Split [.str s, .str ⟨#[c]⟩] (.d (.slice false ((splitS s c).map .str))) [] := by
 refine pure_of_calls fun X w vals hG hx hr => ?_
 cases hr with | cons h1 t1 =>
 cases t1 with | cons h2 t2 =>
 cases t2
 cases h1
 cases h2
 refine (Go.Proofs.split_one Go.Proofs.Tryz.laysSplit (by kernel_rfl) s c w (by omega)).mono ?_
 rintro e w' ⟨rfl, rfl⟩
 refine ⟨_, rfl, Later.alloc w _, ?_⟩
 refine .slice (sz := 1) (T := Go.Proofs.Tryz.laysSplit_ren.t 9) (fz := (0, 0)) (cs := ((splitS s c).map Value.string).toArray) ?_ (fun h => Nat.lt_irrefl _ (hx _ h)) (by simp [splitS_len]) (by intro x hx; obtain ⟨y, _, rfl⟩ := List.mem_map.1 hx; rfl) (Nat.le_refl _) (fun h => by cases h) ?_
 ·show (w.heap.push _)[w.heap.size]? = _
  rw [Array.getElem?_push_size]; rfl
 ·rw [flat_strs]
  simp only [List.drop_zero, Nat.mul_one]
  rw [List.take_of_length_le (by simp [splitS_len])]
  exact repL_strs _
theorem IndexL_c (s : ByteArray) (c : UInt8) : Am.Pure Go.Tel.C F.stringslite_Index [.str s, .str ⟨#[c]⟩] (.d (.int .i64 (Go.Lib.indexByte s.data.toList c))) [] := by
 refine pure_of_calls fun X w vals hG hx hr => ?_
 cases hr with | cons h1 t1 =>
 cases t1 with | cons h2 t2 =>
 cases t2
 cases h1
 cases h2
 refine (Go.Proofs.Any.stringslite_Index_one Go.Proofs.Tryz.laysIndexL s c w).mono ?_
 rintro e w' ⟨rfl, rfl⟩
 exact ⟨_, rfl, Later.refl _, .int _ _⟩
theorem Itoa_c (n : Int) (h0 : -9223372036854775808 ≤ n) (h1 : n ≤ 9223372036854775807) : Am.Pure Go.Tel.C F.strconv_Itoa [.int .i64 n] (.d (.str ⟨(Go.Lib.itoa n).toArray⟩)) [] := by
 refine pure_of_calls fun X w vals hG hx hr => ?_
 cases hr with | cons h2 t2 =>
 cases t2
 cases h2
 refine (Go.Proofs.Any.strconv_Itoa Go.Proofs.Tryz.laysItoa n h0 h1 w hG).mono ?_
 rintro e w' ⟨rfl, k, os, rfl⟩
 exact ⟨_, rfl, ⟨rfl, rfl, rfl, by simp [Go.Sort.grow], fun b hb => by simp only [Go.Sort.grow]; rw [Array.getElem?_append_left (by exact hb)]; rfl⟩, .str _⟩
def joinS (xs : List ByteArray) (sep : ByteArray) : ByteArray := ⟨(Go.Lib.join (xs.map (·.data.toList)) sep.data.toList).toArray⟩
theorem repL_strs_inv {w : World} {O : Nat → Prop} : ∀ {vs : List Value} {xs : List ByteArray}, RepL w O vs (xs.map DV.str) → vs = xs.map Value.string
 | _, [], .nil => rfl
 | _, x :: xs, .cons h t => by
  cases h
  rw [repL_strs_inv t]
  rfl
theorem Join_c (xs : List ByteArray) (sep : ByteArray) (h2 : 2 ≤ xs.length) (hN : xs.length ≤ 1000000) (hl : (Go.Lib.join (xs.map (·.data.toList)) sep.data.toList).length ≤ 1000000000) :
  Am.Pure Go.Tel.C F.strings_Join [.slice false (xs.map .str), .str sep] (.d (.str (joinS xs sep))) [] := by
 refine pure_of_calls fun X w vals hG hx hr => ?_
 cases hr with | cons h1 t1 =>
 cases t1 with | cons h3 t2 =>
 cases t2
 cases h3
 generalize hys : xs.map DV.str = ys at h1
 cases h1 with
 | empty => rw [List.map_eq_nil_iff] at hys; rw [hys] at h2; simp at h2
 | slice hb ho hlen hs hc hx' hrow =>
 rename_i blk off len cap sz cs T fz
 subst hys
 have hsz : sz = 1 := by
  obtain ⟨x0, l, rfl⟩ : ∃ x0 l, xs = x0 :: l := by
   cases xs with
   | nil => simp at h2
   | cons a t => exact ⟨a, t, rfl⟩
  rw [← hs (.str x0) (by simp)]; rfl
 subst hsz
 rw [List.length_map] at hlen
 subst hlen
 rw [flat_strs, Nat.mul_one] at hrow
 have hrw := repL_strs_inv hrow
 refine (Go.Proofs.Any.strings_Join_many Go.Proofs.Tryz.laysJoin Go.Proofs.Tryz.joinExtra blk off cap xs sep w (fun j x hj => ?_) (getElem?_lt hb) h2 (by omega) hc (by omega)).mono ?_
 ·have hj' : j < xs.length := (List.getElem?_eq_some_iff.1 hj).1
  rw [cell_of_row w blk (off + j) cs T fz hb]
  have := congrArg (fun l => l[j]?) hrw
  simp only [List.getElem?_take, hj', if_true, List.getElem?_drop, Array.getElem?_toList, List.getElem?_map, hj, Option.map_some] at this
  exact this
 ·rintro e w' ⟨rfl, hbe⟩
  exact ⟨_, rfl, ⟨hbe.os, hbe.tape, hbe.output, hbe.size, hbe.block⟩, .str _⟩
end Go.Tel
open Nat renaming reduceBEq → qA, reduceAdd → qB, reduceSub → qC, reduceEqDiff → qD, reduceLT → qE, reduceLeDiff → qF
namespace Go.Am
section
variable {C : Ctx} {base : Nat} {M : Mem} {K : PV → Mem → Prop} {KP : DV → Mem → Prop}
theorem inv_d {name : String} {t : TypeId} {v x : DV} {f : FuncId} {v' : DV} (hm : methodRow C.P t name = some f) (hc : callable C.P f = true) (hv : v.strip = v') (hp : Pure C f [v'] (.d x) []) (hK : K (.d x) M) : runOp C base (.inv name) [.d (.iface t v)] M K KP := by
 subst hv
 exact ⟨f, hm, hc, sc_of_runPure (runPure_of_D ⟨[v], rfl, x, hp, hK⟩)⟩
theorem ev_mkSl4 {z1 z2 z3 z4 : DV} {k1 k2 k3 k4 : IntKind} {a b c d : Int} : runOp C base (.mkSl 1 [z1, z2, z3, z4] [0, 1, 2, 3]) [.d (.int k1 a), .d (.int k2 b), .d (.int k3 c), .d (.int k4 d)] M K KP = K (.d (.slice true [.int k1 a, .int k2 b, .int k3 c, .int k4 d])) M := by
 have := frz_d (M := M) (ds := [DV.int k1 a, .int k2 b, .int k3 c, .int k4 d])
 simp only [List.map_cons, List.map_nil] at this
 simp [runOp, datumL, datum, fillS, this, DV.strip, DV.cells]
theorem ev_mkSl5 {z1 z2 z3 z4 z5 : DV} {k1 k2 k3 k4 k5 : IntKind} {a b c d e : Int} : runOp C base (.mkSl 1 [z1, z2, z3, z4, z5] [0, 1, 2, 3, 4]) [.d (.int k1 a), .d (.int k2 b), .d (.int k3 c), .d (.int k4 d), .d (.int k5 e)] M K KP = K (.d (.slice true [.int k1 a, .int k2 b, .int k3 c, .int k4 d, .int k5 e])) M := by
 have := frz_d (M := M) (ds := [DV.int k1 a, .int k2 b, .int k3 c, .int k4 d, .int k5 e])
 simp only [List.map_cons, List.map_nil] at this
 simp [runOp, datumL, datum, fillS, this, DV.strip, DV.cells]
theorem bin_str {op : BinOp} {a b : ByteArray} {K : DV → Prop} : binDV op (.d (.str a)) (.d (.str b)) K = binStr op a b K := propext ⟨id, id⟩
theorem str_add {a b : ByteArray} {K : DV → Prop} : binStr .add a b K = (a.size + b.size ≤ 9223372036854775807 ∧ K (.str (a ++ b))) := propext ⟨id, id⟩
theorem str_eql {a b : ByteArray} {K : DV → Prop} : binStr .eql a b K = K (.bool (a.toList == b.toList)) := propext ⟨id, id⟩
theorem str_neq {a b : ByteArray} {K : DV → Prop} : binStr .neq a b K = K (.bool (!(a.toList == b.toList))) := propext ⟨id, id⟩
end
end Go.Am
namespace Go.Tel
open Go.Am
def wordsL : List ByteArray := [⟨#[112, 105, 101, 99, 101]⟩, ⟨#[99, 101, 110, 116, 114, 101]⟩, ⟨#[119, 104, 101, 101, 108]⟩, ⟨#[109, 101, 115, 104]⟩]
set_option maxRecDepth 10000 in
theorem words_c : Pure C F.plate_words [] (.d (.agg [.str ⟨#[112, 105, 101, 99, 101]⟩, .str ⟨#[99, 101, 110, 116, 114, 101]⟩, .str ⟨#[119, 104, 101, 101, 108]⟩, .str ⟨#[109, 101, 115, 104]⟩])) [] := by
 refine pure_of_pwp_d mixed rfl ok_plate_words ?_
 simp only [pc_plate_words, rs_plate_words, RN, qA, qB, qC, qD, qE, qF]
def Piece.nums (p : Piece) : List Int := [p.w, p.h, p.pl, p.ga, p.po]
set_option maxRecDepth 10000 in
theorem head_numbers_c (p : Piece) : Pure C F.plate_head_numbers [p.dv] (.d (.slice true (p.nums.map intDV))) [] := by
 refine pure_of_pwp_d mixed rfl ok_plate_head_numbers ?_
 simp only [pc_plate_head_numbers, rs_plate_head_numbers, dv_Piece, ev_mkSl5, Piece.nums, dv_int, RN, qA, qB, qC, qD, qE, qF]
def Pt.nums (p : Pt) : List Int := [p.x, p.y]
set_option maxRecDepth 10000 in
theorem centre_numbers_c (p : Pt) : Pure C F.plate_centre_numbers [p.dv] (.d (.slice true (p.nums.map intDV))) [] := by
 refine pure_of_pwp_d mixed rfl ok_plate_centre_numbers ?_
 simp only [pc_plate_centre_numbers, rs_plate_centre_numbers, dv_Pt, ev_mkSl2, Pt.nums, dv_int, RN, qA, qB, qC, qD, qE, qF]
def Wh.nums (p : Wh) : List Int := [p.centre, p.sleeve, p.layer, p.teeth]
set_option maxRecDepth 10000 in
theorem wheel_numbers_c (p : Wh) : Pure C F.plate_wheel_numbers [p.dv] (.d (.slice true (p.nums.map intDV))) [] := by
 refine pure_of_pwp_d mixed rfl ok_plate_wheel_numbers ?_
 simp only [pc_plate_wheel_numbers, rs_plate_wheel_numbers, dv_Wh, ev_mkSl4, Wh.nums, dv_int, RN, qA, qB, qC, qD, qE, qF]
def Ms.nums (p : Ms) : List Int := [p.a, p.b]
set_option maxRecDepth 10000 in
theorem mesh_numbers_c (p : Ms) : Pure C F.plate_mesh_numbers [p.dv] (.d (.slice true (p.nums.map intDV))) [] := by
 refine pure_of_pwp_d mixed rfl ok_plate_mesh_numbers ?_
 simp only [pc_plate_mesh_numbers, rs_plate_mesh_numbers, dv_Ms, ev_mkSl2, Ms.nums, dv_int, RN, qA, qB, qC, qD, qE, qF]
def itoaB (n : Int) : ByteArray := ⟨(Go.Lib.itoa n).toArray⟩
def addNums (out : ByteArray) : List Int → ByteArray
 | [] => out
 | n :: l => addNums (out ++ (⟨#[32]⟩ ++ itoaB n)) l
theorem Itoa_b {n : Int} (h : -1000000 ≤ n ∧ n ≤ 1000000) : Pure C F.strconv_Itoa [.int .i64 n] (.d (.str (itoaB n))) [] := Itoa_c n (by omega) (by omega)
theorem itoaB_size {n : Int} (h : -1000000 ≤ n ∧ n ≤ 1000000) : (itoaB n).size ≤ 21 := by
 have := Go.Lib.itoa_length_le n (by omega) (by omega)
 simpa [itoaB, ByteArray.size] using this
section
variable {nb na : Nat} {Q : Ex → St → Prop}
set_option maxRecDepth 10000 in
set_option maxHeartbeats 1000000 in
theorem row_c (k : Nat) (hk : k < 4) (t : TypeId) (v : DV) (f : FuncId) (ns : List Int) (hns : ns.length ≤ 10) (hb : ∀ n ∈ ns, -1000000 ≤ n ∧ n ≤ 1000000) (hm : methodRow C.P t "tellurion/plate.numbers" = some f) (hc : callable C.P f = true)
  (hp : Pure C f [v.strip] (.d (.slice true (ns.map intDV))) []) (ht : (k = 0 ∧ t = T.plate_head) ∨ (k = 1 ∧ t = T.plate_centre) ∨ (k = 2 ∧ t = T.plate_wheel) ∨ (k = 3 ∧ t = T.plate_mesh)) :
  Pure C F.plate_row [.iface t v] (.d (.str (addNums (wordsL.getD k default) ns))) [] := by
 refine pure_of_pwp_d mixed rfl ok_plate_row ?_
 have n1 : (T.plate_head == T.plate_centre) = false := by decide
 have n2 : (T.plate_head == T.plate_wheel) = false := by decide
 have n3 : (T.plate_head == T.plate_mesh) = false := by decide
 have n4 : (T.plate_wheel == T.plate_centre) = false := by decide
 have n5 : (T.plate_mesh == T.plate_centre) = false := by decide
 have n6 : (T.plate_mesh == T.plate_wheel) = false := by decide
 have i0 : (0 : Int) ≤ 0 ∧ (0 : Int) < ((4 : Nat) : Int) := by decide
 have i1 : (0 : Int) ≤ 1 ∧ (1 : Int) < ((4 : Nat) : Int) := by decide
 have i2 : (0 : Int) ≤ 2 ∧ (2 : Int) < ((4 : Nat) : Int) := by decide
 have i3 : (0 : Int) ≤ 3 ∧ (3 : Int) < ((4 : Nat) : Int) := by decide
 have hw : (wordsL.getD k default).size ≤ 6 := by
  rcases ht with ⟨rfl, _⟩ | ⟨rfl, _⟩ | ⟨rfl, _⟩ | ⟨rfl, _⟩ <;> decide
 rcases ht with ⟨rfl, rfl⟩ | ⟨rfl, rfl⟩ | ⟨rfl, rfl⟩ | ⟨rfl, rfl⟩
 all_goals
  simp only [pc_plate_row, rs_plate_row, n1, n2, n3, n4, n5, n6, ev_tas_ne, ev_tas_eq, RN, qA, qB, qC, qD, qE, qF]
  refine call_d rfl rfl words_c ?_
  simp only [i0.1, i0.2, i1.1, i1.2, i2.1, i2.2, i3.1, i3.2, Int.toNat_zero, Int.reduceToNat, Nat.reduceMul, Nat.zero_mul, RN, qA, qB, qC, qD, qE, qF]
  refine inv_d hm hc rfl hp ?_
  simp only [List.length_map, RN, qA, qB, qC, qD, qE, qF]
  refine pwp_range ns.length (fun i (out : ByteArray) => ⟨[(4, .d (.str out)), (21, .d (.slice true (ns.map intDV))), (22, .d (.int .i64 ns.length)), (23, .d (.int .i64 i))], ⟨[], [], []⟩⟩)
   (fun i out => addNums (wordsL.getD _ default) ns = addNums out (ns.drop i) ∧ out.size ≤ 6 + 22 * i) 0 (wordsL.getD _ default) (Nat.zero_le _) rfl ⟨rfl, by omega⟩ (fun i out g1 hix => ?_) (fun out hix => ?_)
  ·obtain ⟨g2, g3, g6⟩ := rng g1 (by omega)
   obtain ⟨r1, r2⟩ := hix
   rw [drop_cons g1, addNums] at r1
   have hbi := hb _ (getD_mem g1)
   simp only [g2, g3, g1, getD_map, Int.toNat_natCast, List.length_map, dv_int, RN, qA, qB, qC, qD, qE, qF]
   refine call_d rfl rfl (Itoa_b hbi) ?_
   have hsz : (itoaB (ns.getD i default)).size ≤ 21 := itoaB_size hbi
   have hs1 : (⟨#[32]⟩ : ByteArray).size = 1 := rfl
   have hs2 : ((⟨#[32]⟩ : ByteArray) ++ itoaB (ns.getD i default)).size ≤ 22 := by rw [ByteArray.size_append]; omega
   simp only [bin_str, str_add, g6, RN, qA, qB, qC, qD, qE, qF]
   refine ⟨by omega, by omega, ?_⟩
   refine up_same (out ++ (⟨#[32]⟩ ++ itoaB (ns.getD i default))) g1 rfl ⟨r1, by rw [ByteArray.size_append]; omega⟩ (by simp) (by simp) rfl rfl
  ·obtain ⟨r1, r2⟩ := hix
   rw [List.drop_length, addNums] at r1
   simp only [Int.lt_irrefl, RN, qA, qB, qC, qD, qE, qF]
   rw [r1]
end
end Go.Tel
open Nat renaming reduceBEq → qA, reduceAdd → qB, reduceSub → qC, reduceEqDiff → qD, reduceLT → qE, reduceLeDiff → qF
namespace Go.Tel
open Go.Am
def csRow (c : Pt) : ByteArray := addNums (wordsL.getD 1 default) c.nums
def wsRow (c : Wh) : ByteArray := addNums (wordsL.getD 2 default) c.nums
def msRow (c : Ms) : ByteArray := addNums (wordsL.getD 3 default) c.nums
def Piece.rows (p : Piece) : List ByteArray := addNums (wordsL.getD 0 default) p.nums :: (p.cs.map csRow ++ p.ws.map wsRow ++ p.ms.map msRow)
def chkK (r : ByteArray) (i : Nat) : Nat → Int → Int
 | 0, c => c
 | k + 1, c => chkK r i k c + (r.data.getD k 0).toNat * ((k : Int) + 1) * ((i : Int) + 1)
def chkRows : List ByteArray → Nat → Int → Int
 | [], _, c => c
 | r :: l, i, c => chkRows l (i + 1) (chkK r i r.size c)
def endRow (c : Int) : ByteArray := ⟨#[101, 110, 100, 32]⟩ ++ itoaB (c.tdiv 100) ++ itoaB ((c.tdiv 10).tmod 10) ++ itoaB (c.tmod 10)
def Piece.text (p : Piece) : ByteArray := joinS (p.rows ++ [endRow ((chkRows p.rows 0 0).tmod 127)]) ⟨#[10]⟩ ++ ⟨#[10]⟩
structure Piece.small (p : Piece) : Prop where
 w : -1000000 ≤ p.w ∧ p.w ≤ 1000000
 h : -1000000 ≤ p.h ∧ p.h ≤ 1000000
 pl : -1000000 ≤ p.pl ∧ p.pl ≤ 1000000
 ga : -1000000 ≤ p.ga ∧ p.ga ≤ 1000000
 po : -1000000 ≤ p.po ∧ p.po ≤ 1000000
 cs : ∀ c ∈ p.cs, ∀ n ∈ c.nums, -1000000 ≤ n ∧ n ≤ 1000000
 ws : ∀ c ∈ p.ws, ∀ n ∈ c.nums, -1000000 ≤ n ∧ n ≤ 1000000
 ms : ∀ c ∈ p.ms, ∀ n ∈ c.nums, -1000000 ≤ n ∧ n ≤ 1000000
 lc : p.cs.length ≤ 1000
 lw : p.ws.length ≤ 1000
 lm : p.ms.length ≤ 1000
theorem addNums_size : ∀ (ns : List Int) (out : ByteArray), (∀ n ∈ ns, -1000000 ≤ n ∧ n ≤ 1000000) → (addNums out ns).size ≤ out.size + 22 * ns.length
 | [], out, _ => by simp [addNums]
 | n :: l, out, h => by
  have h1 := addNums_size l (out ++ (⟨#[32]⟩ ++ itoaB n)) (fun x hx => h x (List.mem_cons_of_mem _ hx))
  have h2 := itoaB_size (h n List.mem_cons_self)
  have h3 : (⟨#[32]⟩ : ByteArray).size = 1 := rfl
  simp only [ByteArray.size_append] at h1
  rw [addNums, List.length_cons]
  omega
theorem rows_size {p : Piece} (hs : p.small) (hn : ∀ n ∈ p.nums, -1000000 ≤ n ∧ n ≤ 1000000) : ∀ r ∈ p.rows, r.size ≤ 116 := by
 intro r hr
 have w0 : (wordsL.getD 0 default).size = 5 := rfl
 have w1 : (wordsL.getD 1 default).size = 6 := rfl
 have w2 : (wordsL.getD 2 default).size = 5 := rfl
 have w3 : (wordsL.getD 3 default).size = 4 := rfl
 simp only [Piece.rows, List.mem_cons, List.mem_append, List.mem_map] at hr
 rcases hr with rfl | (⟨c, hc, rfl⟩ | ⟨c, hc, rfl⟩) | ⟨c, hc, rfl⟩
 ·have := addNums_size p.nums (wordsL.getD 0 default) hn
  simp only [Piece.nums, List.length_cons, List.length_nil] at this ⊢
  omega
 ·have := addNums_size c.nums (wordsL.getD 1 default) (hs.cs c hc)
  simp only [csRow, Pt.nums, List.length_cons, List.length_nil] at this ⊢
  omega
 ·have := addNums_size c.nums (wordsL.getD 2 default) (hs.ws c hc)
  simp only [wsRow, Wh.nums, List.length_cons, List.length_nil] at this ⊢
  omega
 ·have := addNums_size c.nums (wordsL.getD 3 default) (hs.ms c hc)
  simp only [msRow, Ms.nums, List.length_cons, List.length_nil] at this ⊢
  omega
theorem joinTail_le {B : Nat} (sep : UInt8) : ∀ (r : List (List UInt8)), (∀ x ∈ r, x.length ≤ B) → (Go.Lib.joinTail [sep] r).length ≤ r.length * (B + 1)
 | [], _ => by simp [Go.Lib.joinTail]
 | x :: r, h => by
  have ih := joinTail_le sep r (fun y hy => h y (List.mem_cons_of_mem _ hy))
  have hx := h x List.mem_cons_self
  simp only [Go.Lib.joinTail, List.map_cons, List.flatten_cons, List.length_append, List.length_cons, List.length_nil] at ih ⊢
  rw [Nat.succ_mul]
  omega
theorem join_le {B : Nat} (sep : UInt8) (xs : List (List UInt8)) (h : ∀ x ∈ xs, x.length ≤ B) : (Go.Lib.join xs [sep]).length ≤ xs.length * (B + 1) := by
 cases xs with
 | nil => simp [Go.Lib.join_nil]
 | cons x r =>
  rw [Go.Lib.join_cons, List.length_append, List.length_cons, Nat.succ_mul]
  have := joinTail_le sep r (fun y hy => h y (List.mem_cons_of_mem _ hy))
  have := h x List.mem_cons_self
  omega
theorem size_data (b : ByteArray) : b.data.toList.length = b.size := Array.length_toList
theorem joinS_size (xs : List ByteArray) (c : UInt8) : (joinS xs ⟨#[c]⟩).size = (Go.Lib.join (xs.map (·.data.toList)) [c]).length := by
 unfold joinS
 show (List.toArray _).size = _
 rw [List.size_toArray]
theorem Join_1 (xs : List ByteArray) (c : UInt8) (h2 : 2 ≤ xs.length) (hN : xs.length ≤ 1000000) (hl : (Go.Lib.join (xs.map (·.data.toList)) [c]).length ≤ 1000000000) :
  Pure C F.strings_Join [.slice false (xs.map .str), .str ⟨#[c]⟩] (.d (.str (joinS xs ⟨#[c]⟩))) [] := Join_c xs ⟨#[c]⟩ h2 hN hl
theorem strs_fit (xs : List ByteArray) : ∀ y ∈ xs.map DV.str, y.fits 1 = true := by
 intro y hy; obtain ⟨n, _, rfl⟩ := List.mem_map.1 hy; rfl
theorem fits_str {s : ByteArray} : DV.fits 1 (.str s) = true := rfl
theorem dcells_str {s : ByteArray} : DV.cells (.str s) = [.str s] := rfl
def Piece.cells (p : Piece) : List DV := [.int .i64 p.w, .int .i64 p.h, .int .i64 p.pl, .int .i64 p.ga, .int .i64 p.po, .slice false (p.cs.map Pt.dv), .slice false (p.ws.map Wh.dv), .slice false (p.ms.map Ms.dv)]
set_option maxRecDepth 10000 in
set_option maxHeartbeats 2000000 in
theorem text_c (p : Piece) (hs : p.small) : Pure C F.plate_text [p.dv] (.d (.str p.text)) [] := by
 have hn : ∀ n ∈ p.nums, -1000000 ≤ n ∧ n ≤ 1000000 := by
  intro n hn
  simp only [Piece.nums, List.mem_cons, List.not_mem_nil, or_false] at hn
  rcases hn with rfl | rfl | rfl | rfl | rfl
  ·exact hs.w
  ·exact hs.h
  ·exact hs.pl
  ·exact hs.ga
  ·exact hs.po
 have hr0 := row_c 0 (by decide) T.plate_head p.dv F.plate_head_numbers p.nums (by simp [Piece.nums]) hn (by kernel_rfl) (by kernel_rfl) (by rw [dv_Piece]; exact dv_Piece ▸ head_numbers_c p) (.inl ⟨rfl, rfl⟩)
 refine pure_of_pwp_d mixed rfl ok_plate_text ?_
 simp only [pc_plate_text, rs_plate_text, dv_Piece, ev_mkI_d, RN, qA, qB, qC, qD, qE, qF]
 rw [dv_Piece] at hr0
 refine call_d rfl rfl hr0 ?_
 simp only [ev_mkSl1, ev_asgG_d, DV.strip, dcells_str, fits_str, forall_eq, List.length_map, RN, qA, qB, qC, qD, qE, qF]
 refine pwp_range p.cs.length (fun i (q : List ByteArray × Nat) => ⟨[(1, .d (.cptr p.cells)), (3, .tsl 0 q.2 0), (20, .d (.slice false (p.cs.map Pt.dv))), (21, .d (.int .i64 p.cs.length)), (22, .d (.int .i64 i))],
   ⟨[some (p.cells.map .d)], [0], [some ⟨1, q.1.map .str, q.2, 0⟩]⟩⟩)
  (fun i q => q.1 = [addNums (wordsL.getD 0 default) p.nums] ++ (p.cs.take i).map csRow) 0 ([addNums (wordsL.getD 0 default) p.nums], 0) (Nat.zero_le _) rfl (by simp) (fun i q g1 hix => ?_) (fun q hix => ?_)
 ·obtain ⟨rows, ver⟩ := q
  simp only at hix
  obtain ⟨g2, g3, g6⟩ := rng g1 (by have := hs.lc; omega)
  have hm := getD_mem g1
  have hrl : rows.length + 1 ≤ 1073741824 := by
   have := hs.lc; have := hs.lw; have := hs.lm
   rw [hix]; simp; omega
  simp only [g2, g3, g1, getD_map, Int.toNat_natCast, List.length_map, dv_Pt, List.not_mem_nil, ev_mkI_d, RN, qA, qB, qC, qD, qE, qF]
  have hr := row_c 1 (by decide) T.plate_centre (p.cs.getD i default).dv F.plate_centre_numbers (p.cs.getD i default).nums (by simp [Pt.nums]) (hs.cs _ hm) (by kernel_rfl) (by kernel_rfl) (by rw [dv_Pt]; exact dv_Pt ▸ centre_numbers_c _) (by simp)
  rw [dv_Pt] at hr
  refine call_d rfl rfl hr ?_
  simp only [ev_mkSl1, DV.strip, dcells_str, fits_str, forall_eq, List.length_map, RN, qA, qB, qC, qD, qE, qF]
  refine ⟨by simp, by omega, ?_⟩
  simp only [g6, RN, qA, qB, qC, qD, qE, qF]
  refine up_take 1 1 (rows ++ [csRow (p.cs.getD i default)], ver + 1) g1 ?_ ?_ (by simp) (by simp) rfl rfl
  ·simp only [List.map_append, List.map_cons, List.map_nil]; rfl
  ·simp only [hix]
   rw [take_snoc g1, List.map_append, List.append_assoc]; rfl
 ·obtain ⟨rows, ver⟩ := q
  simp only at hix
  rw [List.take_length] at hix
  simp only [Int.lt_irrefl, Piece.cells, List.length_map, RN, qA, qB, qC, qD, qE, qF]
  have hix1 := hix
  refine pwp_range p.ws.length (fun i (q : List ByteArray × Nat) => ⟨[(1, .d (.cptr p.cells)), (3, .tsl 0 q.2 0), (35, .d (.slice false (p.ws.map Wh.dv))), (36, .d (.int .i64 p.ws.length)), (37, .d (.int .i64 i))],
    ⟨[some (p.cells.map .d)], [0], [some ⟨1, q.1.map .str, q.2, 0⟩]⟩⟩)
   (fun i q => q.1 = rows ++ (p.ws.take i).map wsRow) 0 (rows, ver) (Nat.zero_le _) rfl (by simp) (fun i q g1 hix => ?_) (fun q hix => ?_)
  ·obtain ⟨rows2, ver2⟩ := q
   simp only at hix
   obtain ⟨g2, g3, g6⟩ := rng g1 (by have := hs.lw; omega)
   have hm := getD_mem g1
   have hrl : rows2.length + 1 ≤ 1073741824 := by
    have := hs.lc; have := hs.lw; have := hs.lm
    rw [hix, hix1]; simp; omega
   simp only [g2, g3, g1, getD_map, Int.toNat_natCast, List.length_map, dv_Wh, List.not_mem_nil, ev_mkI_d, RN, qA, qB, qC, qD, qE, qF]
   have hr := row_c 2 (by decide) T.plate_wheel (p.ws.getD i default).dv F.plate_wheel_numbers (p.ws.getD i default).nums (by simp [Wh.nums]) (hs.ws _ hm) (by kernel_rfl) (by kernel_rfl) (by rw [dv_Wh]; exact dv_Wh ▸ wheel_numbers_c _) (by simp)
   rw [dv_Wh] at hr
   refine call_d rfl rfl hr ?_
   simp only [ev_mkSl1, DV.strip, dcells_str, fits_str, forall_eq, List.length_map, RN, qA, qB, qC, qD, qE, qF]
   refine ⟨by simp, by omega, ?_⟩
   simp only [g6, RN, qA, qB, qC, qD, qE, qF]
   refine up_take 1 1 (rows2 ++ [wsRow (p.ws.getD i default)], ver2 + 1) g1 ?_ ?_ (by simp) (by simp) rfl rfl
   ·simp only [List.map_append, List.map_cons, List.map_nil]; rfl
   ·simp only [hix]
    rw [take_snoc g1, List.map_append, List.append_assoc]; rfl
  ·obtain ⟨rows2, ver2⟩ := q
   simp only at hix
   rw [List.take_length] at hix
   simp only [Int.lt_irrefl, Piece.cells, List.length_map, RN, qA, qB, qC, qD, qE, qF]
   have hix2 := hix
   refine pwp_range p.ms.length (fun i (q : List ByteArray × Nat) => ⟨[(3, .tsl 0 q.2 0), (50, .d (.slice false (p.ms.map Ms.dv))), (51, .d (.int .i64 p.ms.length)), (52, .d (.int .i64 i))],
     ⟨[some (p.cells.map .d)], [0], [some ⟨1, q.1.map .str, q.2, 0⟩]⟩⟩)
    (fun i q => q.1 = rows2 ++ (p.ms.take i).map msRow) 0 (rows2, ver2) (Nat.zero_le _) rfl (by simp) (fun i q g1 hix => ?_) (fun q hix => ?_)
   ·obtain ⟨rows3, ver3⟩ := q
    simp only at hix
    obtain ⟨g2, g3, g6⟩ := rng g1 (by have := hs.lm; omega)
    have hm := getD_mem g1
    have hrl : rows3.length + 1 ≤ 1073741824 := by
     have := hs.lc; have := hs.lw; have := hs.lm
     rw [hix, hix2, hix1]; simp; omega
    simp only [g2, g3, g1, getD_map, Int.toNat_natCast, List.length_map, dv_Ms, List.not_mem_nil, ev_mkI_d, RN, qA, qB, qC, qD, qE, qF]
    have hr := row_c 3 (by decide) T.plate_mesh (p.ms.getD i default).dv F.plate_mesh_numbers (p.ms.getD i default).nums (by simp [Ms.nums]) (hs.ms _ hm) (by kernel_rfl) (by kernel_rfl) (by rw [dv_Ms]; exact dv_Ms ▸ mesh_numbers_c _) (by simp)
    rw [dv_Ms] at hr
    refine call_d rfl rfl hr ?_
    simp only [ev_mkSl1, DV.strip, dcells_str, fits_str, forall_eq, List.length_map, RN, qA, qB, qC, qD, qE, qF]
    refine ⟨by simp, by omega, ?_⟩
    simp only [g6, RN, qA, qB, qC, qD, qE, qF]
    refine up_take 1 1 (rows3 ++ [msRow (p.ms.getD i default)], ver3 + 1) g1 ?_ ?_ (by simp) (by simp) rfl rfl
    ·simp only [List.map_append, List.map_cons, List.map_nil]; rfl
    ·simp only [hix]
     rw [take_snoc g1, List.map_append, List.append_assoc]; rfl
   ·obtain ⟨rows3, ver3⟩ := q
    simp only at hix
    rw [List.take_length] at hix
    simp only [Int.lt_irrefl, Piece.cells, List.length_map, RN, qA, qB, qC, qD, qE, qF]
    have hrows : rows3 = p.rows := by rw [hix, hix2, hix1]; simp [Piece.rows]
    have hsz := rows_size hs hn
    have hlen : p.rows.length ≤ 3001 := by have := hs.lc; have := hs.lw; have := hs.lm; simp [Piece.rows]; omega
    subst hrows
    simp only [List.length_map, Nat.sub_zero, RN, qA, qB, qC, qD, qE, qF]
    refine pwp_range p.rows.length (fun i (c : Int) => ⟨[(3, .tsl 0 ver3 0), (10, .d (.int .i64 c)), (64, .tsl 0 ver3 0), (65, .d (.int .i64 p.rows.length)), (66, .d (.int .i64 i))], ⟨[some (p.cells.map .d)], [0], [some ⟨1, p.rows.map .str, ver3, 0⟩]⟩⟩)
     (fun i c => chkRows p.rows 0 0 = chkRows (p.rows.drop i) i c ∧ 0 ≤ c ∧ c ≤ (i : Int) * 11000000000) 0 0 (Nat.zero_le _) rfl ⟨rfl, by decide, by decide⟩ (fun i c g1 hix => ?_) (fun c hix => ?_)
    ·obtain ⟨r1, r2, r3⟩ := hix
     obtain ⟨g2, g3, g6⟩ := rng g1 (by omega)
     have hr := hsz _ (getD_mem g1)
     rw [drop_cons g1, chkRows] at r1
     simp only [g2, g3, g1, getD_map, Int.toNat_natCast, List.length_map, dcells_str, RN, qA, qB, qC, qD, qE, qF]
     generalize p.rows.getD i default = r at *
     have hi : (i : Int) ≤ 3000 := by omega
     refine pwp_range r.size (fun k (c' : Int) => ⟨[(3, .tsl 0 ver3 0), (10, .d (.int .i64 c')), (11, .d (.int .i64 i)), (12, .d (.str r)), (64, .tsl 0 ver3 0), (65, .d (.int .i64 p.rows.length)), (66, .d (.int .i64 i)), (72, .d (.int .i64 r.size)), (73, .d (.int .i64 k))], ⟨[some (p.cells.map .d)], [0], [some ⟨1, p.rows.map .str, ver3, 0⟩]⟩⟩)
      (fun k c' => c' = chkK r i k c ∧ 0 ≤ c' ∧ c' ≤ (i : Int) * 11000000000 + (k : Int) * 90000000) 0 c (Nat.zero_le _) rfl ⟨rfl, r2, by omega⟩ (fun k c' e1 hjx => ?_) (fun c' hjx => ?_)
     ·obtain ⟨s1, s2, s3⟩ := hjx
      obtain ⟨e2, e3, e6⟩ := rng e1 (by omega)
      have hb : (r.data.getD k 0).toNat < 256 := UInt8.toNat_lt _
      have hx0 : (0 : Int) ≤ ((r.data.getD k 0).toNat : Int) * ((k : Int) + 1) := Int.mul_nonneg (by omega) (by omega)
      have hx1 : ((r.data.getD k 0).toNat : Int) * ((k : Int) + 1) ≤ 255 * 116 := Int.mul_le_mul (by omega) (by omega) (by omega) (by omega)
      have hy0 : (0 : Int) ≤ ((r.data.getD k 0).toNat : Int) * ((k : Int) + 1) * ((i : Int) + 1) := Int.mul_nonneg hx0 (by omega)
      have hy1 : ((r.data.getD k 0).toNat : Int) * ((k : Int) + 1) * ((i : Int) + 1) ≤ 255 * 116 * 3001 := Int.mul_le_mul hx1 (by omega) (by omega) (by omega)
      have v0 : IntKind.i64.wrap ((r.data.getD k 0).toNat : Int) = ((r.data.getD k 0).toNat : Int) := w64_in (by omega)
      have v1 : ((k + 1 : Nat) : Int) = (k : Int) + 1 := by omega
      have v2 : ((i + 1 : Nat) : Int) = (i : Int) + 1 := by omega
      have v3 : IntKind.i64.wrap (((r.data.getD k 0).toNat : Int) * ((k : Int) + 1)) = ((r.data.getD k 0).toNat : Int) * ((k : Int) + 1) := w64_in (by omega)
      have v4 : IntKind.i64.wrap (((r.data.getD k 0).toNat : Int) * ((k : Int) + 1) * ((i : Int) + 1)) = ((r.data.getD k 0).toNat : Int) * ((k : Int) + 1) * ((i : Int) + 1) := w64_in (by omega)
      have v5 : IntKind.i64.wrap (c' + ((r.data.getD k 0).toNat : Int) * ((k : Int) + 1) * ((i : Int) + 1)) = c' + ((r.data.getD k 0).toNat : Int) * ((k : Int) + 1) * ((i : Int) + 1) := w64_in (by omega)
      rw [v1] at e6
      rw [v2] at g6
      simp only [e2, e3, e1, Int.toNat_natCast, v0, e6, g6, v3, v4, v5, RN, qA, qB, qC, qD, qE, qF]
      refine up_same (c' + ((r.data.getD k 0).toNat : Int) * ((k : Int) + 1) * ((i : Int) + 1)) e1 ?_ ⟨by rw [chkK, s1], by omega, by omega⟩ (by simp) (by simp) rfl ?_
      ·rw [← v1]; rfl
      ·simp [PV.upto]
     ·obtain ⟨s1, s2, s3⟩ := hjx
      simp only [Int.lt_irrefl, g6, RN, qA, qB, qC, qD, qE, qF]
      refine up_same c' g1 rfl ⟨by rw [r1, s1], s2, by omega⟩ (by simp) (by simp) rfl ?_
      simp [PV.upto]
    ·obtain ⟨r1, r2, r3⟩ := hix
     rw [List.drop_length, chkRows] at r1
     simp only [Int.lt_irrefl, RN, qA, qB, qC, qD, qE, qF]
     have hp : p.text = joinS (p.rows ++ [endRow (c.tmod 127)]) ⟨#[10]⟩ ++ ⟨#[10]⟩ := by rw [Piece.text, r1]
     rw [hp]
     have hd0 : 0 ≤ c.tmod 127 := Int.tmod_nonneg _ r2
     have hd1 : c.tmod 127 < 127 := Int.tmod_lt_of_pos _ (by decide)
     generalize c.tmod 127 = d at *
     have e1 : d.tdiv 100 = d / 100 := Int.tdiv_eq_ediv_of_nonneg hd0
     have e2 : d.tdiv 10 = d / 10 := Int.tdiv_eq_ediv_of_nonneg hd0
     have e3 : (d.tdiv 10).tmod 10 = (d / 10) % 10 := by rw [e2]; exact Int.tmod_eq_emod_of_nonneg (by omega)
     have e4 : d.tmod 10 = d % 10 := Int.tmod_eq_emod_of_nonneg hd0
     have v1 : IntKind.i64.wrap (d.tdiv 100) = d.tdiv 100 := w64_in (by omega)
     have v2 : IntKind.i64.wrap (d.tdiv 10) = d.tdiv 10 := w64_in (by omega)
     have z1 := itoaB_size (n := d.tdiv 100) (by omega)
     have z2 := itoaB_size (n := (d.tdiv 10).tmod 10) (by omega)
     have z3 := itoaB_size (n := d.tmod 10) (by omega)
     have z0 : (⟨#[101, 110, 100, 32]⟩ : ByteArray).size = 4 := rfl
     have z4 : (endRow d).size ≤ 116 := by simp only [endRow, ByteArray.size_append]; omega
     rw [v1, v2]
     refine ⟨by decide, by decide, ?_⟩
     refine call_d rfl rfl (Itoa_b (by omega)) ?_
     simp only [bin_str, str_add, RN, qA, qB, qC, qD, qE, qF]
     refine ⟨by omega, by decide, by decide, ?_⟩
     refine call_d rfl rfl (Itoa_b (by omega)) ?_
     simp only [bin_str, str_add, RN, qA, qB, qC, qD, qE, qF]
     refine ⟨by rw [ByteArray.size_append]; omega, by decide, ?_⟩
     refine call_d rfl rfl (Itoa_b (by omega)) ?_
     simp only [bin_str, str_add, RN, qA, qB, qC, qD, qE, qF]
     refine ⟨by simp only [ByteArray.size_append]; omega, rfl, ?_⟩
     simp only [DV.strip, dcells_str, fits_str, forall_eq, List.length_map, RN, qA, qB, qC, qD, qE, qF]
     refine ⟨by simp, by omega, ?_⟩
     have hxs : p.rows.map DV.str ++ [.str (⟨#[101, 110, 100, 32]⟩ ++ itoaB (d.tdiv 100) ++ itoaB ((d.tdiv 10).tmod 10) ++ itoaB (d.tmod 10))] = (p.rows ++ [endRow d]).map DV.str := by simp [endRow]
     rw [hxs]
     have hall : ∀ x ∈ (p.rows ++ [endRow d]).map (·.data.toList), x.length ≤ 116 := by
      intro x hx
      obtain ⟨r, hr, rfl⟩ := List.mem_map.1 hx
      show r.data.toList.length ≤ 116
      rw [size_data]
      rcases List.mem_append.1 hr with h | h
      ·exact hsz r h
      ·rw [List.mem_singleton.1 h]; exact z4
     have hjl := join_le 10 _ hall
     have hlr : 1 ≤ p.rows.length := by simp [Piece.rows]
     have hj2 : ((p.rows ++ [endRow d]).map (·.data.toList)).length = p.rows.length + 1 := by simp
     rw [hj2] at hjl
     have hj3 : (p.rows.length + 1) * (116 + 1) ≤ 3002 * 117 := Nat.mul_le_mul (by omega) (by omega)
     have hjc := Join_1 (p.rows ++ [endRow d]) 10 (by simp; omega) (by simp; omega) (by omega)
     refine call_f (ds := [.slice false ((p.rows ++ [endRow d]).map DV.str), .str ⟨#[10]⟩]) (by simp [datumL, datum, row_m]) rfl hjc rfl ?_
     have hfin : ∀ m : Nat, m ≤ 3002 * 117 → m + 1 ≤ 9223372036854775807 := by intro m h; omega
     have hjs : (joinS (p.rows ++ [endRow d]) ⟨#[10]⟩).size ≤ 3002 * 117 := Nat.le_trans (Nat.le_of_eq (joinS_size _ _)) (Nat.le_trans hjl hj3)
     simp only [bin_str, str_add, RN, qA, qB, qC, qD, qE, qF]
     exact hfin _ hjs
end Go.Tel
open Nat renaming reduceBEq → qA, reduceAdd → qB, reduceSub → qC, reduceEqDiff → qD, reduceLT → qE, reduceLeDiff → qF
namespace Go.Am
section
variable {C : Ctx} {base : Nat} {L : PV → Mem → Prop} {KP : DV → Mem → Prop} {bs : List (Option (List PV))} {fz : List Nat} {ar : List (Option Arr)}
theorem ev_rngS {i : Nat} {s : ByteArray} : runOp C base (.rngS i) [.d (.str s)] ⟨bs, fz, ar⟩ L KP = (bs[base + i]? = some none ∧ L (.iref (base + i)) ⟨bs.set (base + i) (some [.sitr s 0]), fz, ar⟩) := propext ⟨id, id⟩
theorem ev_nxtS_go {b pos c n : Nat} {s : ByteArray} (h : bs[b]? = some (some [.sitr s pos])) (hf : b ∉ fz) (hp : pos < s.size) (hd : Utf8.decode s pos = (c, n)) (hK : L (.d (.tup [.bool true, .int .i64 pos, .int .i32 c])) ⟨bs.set b (some [.sitr s (pos + n)]), fz, ar⟩) :
  runOp C base .nxtS [.iref b] ⟨bs, fz, ar⟩ L KP := by
 simp only [runOp, Mem.box, h, hd]
 exact ⟨hf, by rw [if_pos hp]; exact hK⟩
theorem ev_nxtS_end {b pos : Nat} {s : ByteArray} (h : bs[b]? = some (some [.sitr s pos])) (hf : b ∉ fz) (hp : ¬ pos < s.size) (hK : L (.d (.tup [.bool false])) ⟨bs, fz, ar⟩) :
  runOp C base .nxtS [.iref b] ⟨bs, fz, ar⟩ L KP := by
 simp only [runOp, Mem.box, h]
 exact ⟨hf, by rw [if_neg hp]; exact hK⟩
end
end Go.Am
namespace Go.Tel
open Go.Am
def noneD (d : DV) : Prop := ∃ s, d = .iface T.plate_none (.agg [.str s])
set_option maxRecDepth 10000 in
theorem sure_sc {b : Bool} {s : ByteArray} {M : Mem} {K : PV → Mem → Prop} {KP : DV → Mem → Prop} (hK : b = true → K (.d (.tup [])) M) (hP : b = false → ∀ d, noneD d → KP d M) : SC Go.Tel.C F.plate_sure [.d (.bool b), .d (.str s)] M K KP := by
 refine sc_any (ds := [.bool b, .str s]) (Kr := fun x => b = true ∧ x = .tup []) (Kp := fun d => b = false ∧ noneD d) ?_ (fun x hx => by rw [hx.2]; exact hK hx.1) (fun d hd => hP hd.1 d hd.2)
 refine sc_of_pwp mixed rfl ok_plate_sure ?_
 cases b
 ·simp only [pc_plate_sure, rs_plate_sure, ev_mkI_d, ev_panic_d, RN, qA, qB, qC, qD, qE, qF]
  exact ⟨s, rfl⟩
 ·simp only [pc_plate_sure, rs_plate_sure, RN, qA, qB, qC, qD, qE, qF]
  exact ⟨_, rfl, rfl⟩
def numGo (w : ByteArray) : Nat → Nat → Int → Option Int
 | 0, _, n => some n
 | k + 1, pos, n => if 48 ≤ (w.data.getD pos 0).toNat ∧ (w.data.getD pos 0).toNat ≤ 57 ∧ w.size ≤ 3 then numGo w k (pos + 1) (10 * n + (((w.data.getD pos 0).toNat : Int) - 48)) else none
def numberS (w : ByteArray) : Option Int := match numGo w w.size 0 0 with
 | some n => if w.size ≠ 0 ∧ (itoaB n).data.toList = w.data.toList then some n else none
 | none => none
set_option maxRecDepth 10000 in
set_option maxHeartbeats 2000000 in
theorem number_sc {w : ByteArray} {M : Mem} {K : PV → Mem → Prop} {KP : DV → Mem → Prop} (hK : ∀ n, numberS w = some n → K (.d (.int .i64 n)) M) (hP : numberS w = none → ∀ d, noneD d → KP d M) : SC Go.Tel.C F.plate_number [.d (.str w)] M K KP := by
 refine sc_any (ds := [.str w]) (Kr := fun x => ∃ n, numberS w = some n ∧ x = .int .i64 n) (Kp := fun d => numberS w = none ∧ noneD d) ?_ (fun x hx => by obtain ⟨n, h1, rfl⟩ := hx; exact hK n h1) (fun d hd => hP hd.1 d hd.2)
 refine sc_of_pwp mixed rfl ok_plate_number ?_
 simp only [pc_plate_number, rs_plate_number, ev_rngS, RN, qA, qB, qC, qD, qE, qF]
 refine pwp_while (fun (q : Nat × Int) => ⟨[(0, .d (.str w)), (3, .d (.int .i64 q.2)), (7, .iref 0)], ⟨[some [.sitr w q.1]], [], []⟩⟩)
  (fun q => q.1 ≤ w.size ∧ numGo w w.size 0 0 = numGo w (w.size - q.1) q.1 q.2 ∧ 0 ≤ q.2 ∧ q.2 < 10 ^ q.1 ∧ (0 < q.1 → w.size ≤ 3)) (fun q => w.size - q.1) (0, 0) rfl ⟨Nat.zero_le _, rfl, by decide, by decide, by simp⟩ (fun q hq => ?_)
 obtain ⟨pos, n⟩ := q
 obtain ⟨q1, q2, q3, q4, q5⟩ := hq
 simp only at q1 q2 q3 q4 q5
 by_cases hp : pos < w.size
 ·obtain ⟨c, dn, hd⟩ : ∃ c dn, Utf8.decode w pos = (c, dn) := ⟨_, _, rfl⟩
  have hg : w.data.getD pos 0 = w[pos]'hp := by
   rw [Array.getD_eq_getD_getElem?, Array.getElem?_eq_getElem (show pos < w.data.size from hp)]; rfl
  have hb : (48 ≤ (w.data.getD pos 0).toNat ∧ (w.data.getD pos 0).toNat ≤ 57 ↔ 48 ≤ c ∧ c ≤ 57) ∧ (c ≤ 57 → c = (w.data.getD pos 0).toNat ∧ dn = 1) := by
   rw [hg]
   by_cases ha : (w[pos]'hp).toNat < 128
   ·have := decode_ascii w pos hp ha
    rw [hd] at this
    cases this
    exact ⟨Iff.rfl, fun _ => ⟨rfl, rfl⟩⟩
   ·have := (decode_high w pos hp (by omega)).1
    rw [hd] at this
    simp only at this
    exact ⟨by omega, by omega⟩
  obtain ⟨k, hk⟩ : ∃ k, w.size - pos = k + 1 := ⟨w.size - pos - 1, by omega⟩
  rw [hk, numGo] at q2
  have bad : ¬ (48 ≤ c ∧ c ≤ 57 ∧ w.size ≤ 3) → numberS w = none := by
   intro hn
   rw [if_neg (by intro hh; exact hn ⟨(hb.1.1 ⟨hh.1, hh.2.1⟩).1, (hb.1.1 ⟨hh.1, hh.2.1⟩).2, hh.2.2⟩)] at q2
   rw [numberS, q2]
  simp only [RN, qA, qB, qC, qD, qE, qF]
  refine ev_nxtS_go rfl (by simp) hp hd ?_
  by_cases k1 : (c : Int) ≥ 48
  case neg =>
   simp only [k1, RN, qA, qB, qC, qD, qE, qF]
   exact sure_sc (fun h => by cases h) (fun _ d hdd => ⟨bad (by omega), hdd⟩)
  by_cases k2 : (c : Int) ≤ 57
  case neg =>
   simp only [k1, k2, RN, qA, qB, qC, qD, qE, qF]
   exact sure_sc (fun h => by cases h) (fun _ d hdd => ⟨bad (by omega), hdd⟩)
  by_cases k3 : (w.size : Int) ≤ 3
  case neg =>
   simp only [k1, k2, k3, RN, qA, qB, qC, qD, qE, qF]
   exact sure_sc (fun h => by cases h) (fun _ d hdd => ⟨bad (by omega), hdd⟩)
  simp only [k1, k2, k3, RN, qA, qB, qC, qD, qE, qF]
  refine sure_sc (fun _ => ?_) (fun h => by cases h)
  obtain ⟨hc, rfl⟩ := hb.2 (by omega)
  rw [if_pos ⟨by omega, by omega, by omega⟩, ← hc] at q2
  have hpw : (10 : Int) ^ pos ≤ 100 := by
   rcases pos with _ | _ | _ | pos
   ·decide
   ·decide
   ·decide
   ·omega
  have w1 : IntKind.i64.wrap (10 * n) = 10 * n := w64_in (by omega)
  have w2 : IntKind.i32.wrap ((c : Int) - 48) = (c : Int) - 48 := by
   obtain ⟨m, hm⟩ : ∃ m : Nat, (c : Int) - 48 = m := Int.eq_ofNat_of_zero_le (by omega)
   have hm2 : m < 10 := by omega
   rw [hm]
   exact (by decide : ∀ m < 10, IntKind.i32.wrap ((m : Nat) : Int) = m) m hm2
  have w3 : IntKind.i64.wrap ((c : Int) - 48) = (c : Int) - 48 := w64_in (by omega)
  have w4 : IntKind.i64.wrap (10 * n + ((c : Int) - 48)) = 10 * n + ((c : Int) - 48) := w64_in (by omega)
  simp only [w1, w2, w3, w4, RN, qA, qB, qC, qD, qE, qF]
  refine wh_same (a := (pos, n)) (μ := fun q => w.size - q.1) (pos + 1, 10 * n + ((c : Int) - 48)) (by simp only; omega) rfl ⟨by simp only; omega, ?_, by simp only; omega, ?_, fun _ => by omega⟩ (by simp) (by simp) rfl rfl
  ·simp only
   rw [q2, show w.size - (pos + 1) = k by omega]
  ·simp only [Int.pow_succ]; omega
 ·have hps : pos = w.size := by omega
  rw [hps, Nat.sub_self, numGo] at q2
  simp only [RN, qA, qB, qC, qD, qE, qF]
  refine ev_nxtS_end rfl (by simp) hp ?_
  have e0 : (w.toList == (⟨#[]⟩ : ByteArray).toList) = decide (w.size = 0) := by
   rw [Go.Lib.toList_data, Go.Lib.toList_data, ← size_data]
   cases w.data.toList <;> simp
  by_cases hz : w.size = 0
  ·rw [decide_eq_true hz] at e0
   simp only [bin_str, str_neq, e0, RN, qA, qB, qC, qD, qE, qF]
   exact sure_sc (fun h => by cases h) (fun _ d hdd => ⟨by rw [numberS, q2]; simp [hz], hdd⟩)
  ·rw [decide_eq_false hz] at e0
   have hn3 : w.size ≤ 3 := q5 (by omega)
   have hpw : (10 : Int) ^ pos ≤ 1000 := by
    rcases pos with _ | _ | _ | _ | pos
    ·decide
    ·decide
    ·decide
    ·decide
    ·omega
   simp only [bin_str, str_neq, e0, RN, qA, qB, qC, qD, qE, qF]
   refine call_d rfl rfl (Itoa_b (by omega)) ?_
   by_cases he : (itoaB n).data.toList = w.data.toList
   ·have e1 : ((itoaB n).toList == w.toList) = true := by rw [Go.Lib.toList_data, Go.Lib.toList_data]; exact beq_iff_eq.2 he
    simp only [bin_str, str_eql, e1, RN, qA, qB, qC, qD, qE, qF]
    refine sure_sc (fun _ => ?_) (fun h => by cases h)
    simp only [RN, qA, qB, qC, qD, qE, qF]
    exact ⟨_, rfl, n, by rw [numberS, q2]; simp only; rw [if_pos ⟨hz, he⟩], rfl⟩
   ·have e1 : ((itoaB n).toList == w.toList) = false := by rw [Go.Lib.toList_data, Go.Lib.toList_data]; exact beq_eq_false_iff_ne.2 he
    simp only [bin_str, str_eql, e1, RN, qA, qB, qC, qD, qE, qF]
    exact sure_sc (fun h => by cases h) (fun _ d hdd => ⟨by rw [numberS, q2]; simp only; rw [if_neg (fun hh => he hh.2)], hdd⟩)
end Go.Tel
