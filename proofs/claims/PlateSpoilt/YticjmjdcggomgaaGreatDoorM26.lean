/-
  Part 26 of the proof of a law of plates: an abstract machine over the model, contracts of functions, plain laws.
  Conditions: none.
-/
import Derived.Test.YticjmjdcggomgaaGreatDoorM25
set_option linter.all false
open Nat renaming reduceBEq → qA, reduceAdd → qB, reduceSub → qC, reduceEqDiff → qD, reduceLT → qE, reduceLeDiff → qF
namespace Go.Tel
open Go.Am
def rRow0 (p : Piece) : ByteArray := ⟨#[112, 105, 101, 99, 101]⟩ ++ addWords ⟨#[]⟩ p.nums
def rRowC (c : Pt) : ByteArray := ⟨#[99, 101, 110, 116, 114, 101]⟩ ++ addWords ⟨#[]⟩ c.nums
def rRowW (c : Wh) : ByteArray := ⟨#[119, 104, 101, 101, 108]⟩ ++ addWords ⟨#[]⟩ c.nums
def rRowM (c : Ms) : ByteArray := ⟨#[109, 101, 115, 104]⟩ ++ addWords ⟨#[]⟩ c.nums
def Piece.rrows (p : Piece) : List ByteArray := rRow0 p :: (p.cs.map rRowC ++ p.ws.map rRowW ++ p.ms.map rRowM)
def rText : List ByteArray → ByteArray → ByteArray
 | [], t => t
 | r :: l, t => rText l (t ++ r ++ ⟨#[10]⟩)
def rPrint (t : ByteArray) (m : Nat) : ByteArray := t ++ ⟨#[101, 110, 100, 32]⟩ ++ decS (m / 100) ++ decS (m / 10 % 10) ++ decS (m % 10) ++ ⟨#[10]⟩
def Piece.print (p : Piece) : ByteArray := rPrint (rText p.rrows ⟨#[]⟩) ((chkRows p.rrows 0 0).tmod 127).toNat
structure Piece.tiny (p : Piece) : Prop where
 nums : ∀ n ∈ p.nums, 0 ≤ n ∧ n ≤ 1000
 cs : ∀ c ∈ p.cs, ∀ n ∈ c.nums, 0 ≤ n ∧ n ≤ 1000
 ws : ∀ c ∈ p.ws, ∀ n ∈ c.nums, 0 ≤ n ∧ n ≤ 1000
 ms : ∀ c ∈ p.ms, ∀ n ∈ c.nums, 0 ≤ n ∧ n ≤ 1000
 lc : p.cs.length ≤ 700
 lw : p.ws.length ≤ 700
 lm : p.ms.length ≤ 700
theorem rrows_size {p : Piece} (hs : p.tiny) : ∀ r ∈ p.rrows, r.size ≤ 5020 := by
 intro r hr
 have w0 : (⟨#[112, 105, 101, 99, 101]⟩ : ByteArray).size = 5 := rfl
 have w1 : (⟨#[99, 101, 110, 116, 114, 101]⟩ : ByteArray).size = 6 := rfl
 have w2 : (⟨#[119, 104, 101, 101, 108]⟩ : ByteArray).size = 5 := rfl
 have w3 : (⟨#[109, 101, 115, 104]⟩ : ByteArray).size = 4 := rfl
 have z0 : (⟨#[]⟩ : ByteArray).size = 0 := rfl
 simp only [Piece.rrows, List.mem_cons, List.mem_append, List.mem_map] at hr
 rcases hr with rfl | (⟨c, hc, rfl⟩ | ⟨c, hc, rfl⟩) | ⟨c, hc, rfl⟩
 ·have := addWords_size p.nums ⟨#[]⟩ hs.nums
  simp only [rRow0, ByteArray.size_append, Piece.nums, List.length_cons, List.length_nil] at this ⊢
  omega
 ·have := addWords_size c.nums ⟨#[]⟩ (hs.cs c hc)
  simp only [rRowC, ByteArray.size_append, Pt.nums, List.length_cons, List.length_nil] at this ⊢
  omega
 ·have := addWords_size c.nums ⟨#[]⟩ (hs.ws c hc)
  simp only [rRowW, ByteArray.size_append, Wh.nums, List.length_cons, List.length_nil] at this ⊢
  omega
 ·have := addWords_size c.nums ⟨#[]⟩ (hs.ms c hc)
  simp only [rRowM, ByteArray.size_append, Ms.nums, List.length_cons, List.length_nil] at this ⊢
  omega
set_option maxRecDepth 10000 in
set_option maxHeartbeats 4000000 in
theorem Print_c (p : Piece) (hs : p.tiny) : Pure C F.ref_Print [p.dv] (.d (.str p.print)) [] := by
 have hr := rwords_c p.nums (by simp [Piece.nums]) hs.nums
 have hsz := addWords_size p.nums ⟨#[]⟩ hs.nums
 simp only [Piece.nums, List.map_cons, List.map_nil, dv_int, List.length_cons, List.length_nil] at hr hsz
 have hz0 : (⟨#[]⟩ : ByteArray).size = 0 := rfl
 have hz1 : (⟨#[112, 105, 101, 99, 101]⟩ : ByteArray).size ≤ 6 := by decide
 refine pure_of_pwp_d mixed rfl ok_ref_Print ?_
 simp only [pc_ref_Print, rs_ref_Print, dv_Piece, ev_mkSl5, RN, qA, qB, qC, qD, qE, qF]
 refine call_d rfl rfl hr ?_
 simp only [bin_str, str_add, ev_mkSl1, ev_asgG_d, DV.strip, dcells_str, fits_str, forall_eq, List.length_map, RN, qA, qB, qC, qD, qE, qF]
 refine ⟨by omega, ?_⟩
 refine pwp_range p.cs.length (fun i (q : List ByteArray × Nat) => ⟨[(1, .d (.cptr p.cells)), (3, .tsl 0 q.2 0), (4, .d (.int .i64 i))], ⟨[some (p.cells.map .d)], [0], [some ⟨1, q.1.map .str, q.2, 0⟩]⟩⟩)
  (fun i q => q.1 = [rRow0 p] ++ (p.cs.take i).map rRowC) 0 ([rRow0 p], 0) (Nat.zero_le _) rfl (by simp) (fun i q g1 hix => ?_) (fun q hix => ?_)
 ·obtain ⟨rows, ver⟩ := q
  simp only at hix
  obtain ⟨g2, g3, g6⟩ := rng g1 (by have := hs.lc; omega)
  have hm := getD_mem g1
  have hrl : rows.length + 1 ≤ 1073741824 := by
   have := hs.lc; have := hs.lw; have := hs.lm
   rw [hix]; simp; omega
  have hr := rwords_c (p.cs.getD i default).nums (by simp [Pt.nums]) (hs.cs _ hm)
  have hsz := addWords_size (p.cs.getD i default).nums ⟨#[]⟩ (hs.cs _ hm)
  simp only [Pt.nums, List.map_cons, List.map_nil, dv_int, List.length_cons, List.length_nil] at hr hsz
  have hz0 : (⟨#[]⟩ : ByteArray).size = 0 := rfl
  have hz1 : (⟨#[99, 101, 110, 116, 114, 101]⟩ : ByteArray).size ≤ 6 := by decide
  simp only [Piece.cells, g2, g3, g1, getD_map, Int.toNat_natCast, List.length_map, dv_Pt, List.not_mem_nil, ev_mkSl2, RN, qA, qB, qC, qD, qE, qF]
  refine call_d rfl rfl hr ?_
  simp only [bin_str, str_add, ev_mkSl1, DV.strip, dcells_str, fits_str, forall_eq, List.length_map, RN, qA, qB, qC, qD, qE, qF]
  refine ⟨by omega, by simp, by omega, ?_⟩
  simp only [g6, RN, qA, qB, qC, qD, qE, qF]
  refine up_same (rows ++ [rRowC (p.cs.getD i default)], ver + 1) g1 ?_ ?_ (by simp) (by simp) rfl rfl
  ·simp only [List.map_append, List.map_cons, List.map_nil]; rfl
  ·simp only [hix]
   rw [take_snoc g1, List.map_append, List.append_assoc]; rfl
 ·obtain ⟨rows, ver⟩ := q
  simp only at hix
  rw [List.take_length] at hix
  simp only [Int.lt_irrefl, Piece.cells, List.length_map, RN, qA, qB, qC, qD, qE, qF]
  have hix1 := hix
  refine pwp_range p.ws.length (fun i (q : List ByteArray × Nat) => ⟨[(1, .d (.cptr p.cells)), (3, .tsl 0 q.2 0), (5, .d (.int .i64 i))], ⟨[some (p.cells.map .d)], [0], [some ⟨1, q.1.map .str, q.2, 0⟩]⟩⟩)
   (fun i q => q.1 = rows ++ (p.ws.take i).map rRowW) 0 (rows, ver) (Nat.zero_le _) rfl (by simp) (fun i q g1 hix => ?_) (fun q hix => ?_)
  ·obtain ⟨rows2, ver2⟩ := q
   simp only at hix
   obtain ⟨g2, g3, g6⟩ := rng g1 (by have := hs.lw; omega)
   have hm := getD_mem g1
   have hrl : rows2.length + 1 ≤ 1073741824 := by
    have := hs.lc; have := hs.lw; have := hs.lm
    rw [hix, hix1]; simp; omega
   have hr := rwords_c (p.ws.getD i default).nums (by simp [Wh.nums]) (hs.ws _ hm)
   have hsz := addWords_size (p.ws.getD i default).nums ⟨#[]⟩ (hs.ws _ hm)
   simp only [Wh.nums, List.map_cons, List.map_nil, dv_int, List.length_cons, List.length_nil] at hr hsz
   have hz0 : (⟨#[]⟩ : ByteArray).size = 0 := rfl
   have hz1 : (⟨#[119, 104, 101, 101, 108]⟩ : ByteArray).size ≤ 6 := by decide
   simp only [Piece.cells, g2, g3, g1, getD_map, Int.toNat_natCast, List.length_map, dv_Wh, List.not_mem_nil, ev_mkSl4, RN, qA, qB, qC, qD, qE, qF]
   refine call_d rfl rfl hr ?_
   simp only [bin_str, str_add, ev_mkSl1, DV.strip, dcells_str, fits_str, forall_eq, List.length_map, RN, qA, qB, qC, qD, qE, qF]
   refine ⟨by omega, by simp, by omega, ?_⟩
   simp only [g6, RN, qA, qB, qC, qD, qE, qF]
   refine up_take 1 1 (rows2 ++ [rRowW (p.ws.getD i default)], ver2 + 1) g1 ?_ ?_ (by simp) (by simp) rfl rfl
   ·simp only [List.map_append, List.map_cons, List.map_nil]; rfl
   ·simp only [hix]
    rw [take_snoc g1, List.map_append, List.append_assoc]; rfl
  ·obtain ⟨rows2, ver2⟩ := q
   simp only at hix
   rw [List.take_length] at hix
   simp only [Int.lt_irrefl, Piece.cells, List.length_map, RN, qA, qB, qC, qD, qE, qF]
   have hix2 := hix
   refine pwp_range p.ms.length (fun i (q : List ByteArray × Nat) => ⟨[(1, .d (.cptr p.cells)), (3, .tsl 0 q.2 0), (7, .d (.int .i64 i))], ⟨[some (p.cells.map .d)], [0], [some ⟨1, q.1.map .str, q.2, 0⟩]⟩⟩)
    (fun i q => q.1 = rows2 ++ (p.ms.take i).map rRowM) 0 (rows2, ver2) (Nat.zero_le _) rfl (by simp) (fun i q g1 hix => ?_) (fun q hix => ?_)
   ·obtain ⟨rows3, ver3⟩ := q
    simp only at hix
    obtain ⟨g2, g3, g6⟩ := rng g1 (by have := hs.lm; omega)
    have hm := getD_mem g1
    have hrl : rows3.length + 1 ≤ 1073741824 := by
     have := hs.lc; have := hs.lw; have := hs.lm
     rw [hix, hix2, hix1]; simp; omega
    have hr := rwords_c (p.ms.getD i default).nums (by simp [Ms.nums]) (hs.ms _ hm)
    have hsz := addWords_size (p.ms.getD i default).nums ⟨#[]⟩ (hs.ms _ hm)
    simp only [Ms.nums, List.map_cons, List.map_nil, dv_int, List.length_cons, List.length_nil] at hr hsz
    have hz0 : (⟨#[]⟩ : ByteArray).size = 0 := rfl
    have hz1 : (⟨#[109, 101, 115, 104]⟩ : ByteArray).size ≤ 6 := by decide
    simp only [Piece.cells, g2, g3, g1, getD_map, Int.toNat_natCast, List.length_map, dv_Ms, List.not_mem_nil, ev_mkSl2, RN, qA, qB, qC, qD, qE, qF]
    refine call_d rfl rfl hr ?_
    simp only [bin_str, str_add, ev_mkSl1, DV.strip, dcells_str, fits_str, forall_eq, List.length_map, RN, qA, qB, qC, qD, qE, qF]
    refine ⟨by omega, by simp, by omega, ?_⟩
    simp only [g6, RN, qA, qB, qC, qD, qE, qF]
    refine up_same (rows3 ++ [rRowM (p.ms.getD i default)], ver3 + 1) g1 ?_ ?_ (by simp) (by simp) rfl rfl
    ·simp only [List.map_append, List.map_cons, List.map_nil]; rfl
    ·simp only [hix]
     rw [take_snoc g1, List.map_append, List.append_assoc]; rfl
   ·obtain ⟨rows3, ver3⟩ := q
    simp only at hix
    rw [List.take_length] at hix
    simp only [Int.lt_irrefl, Piece.cells, List.length_map, RN, qA, qB, qC, qD, qE, qF]
    have hrows : rows3 = p.rrows := by rw [hix, hix2, hix1]; simp [Piece.rrows]
    have hlen : p.rrows.length ≤ 2101 := by have := hs.lc; have := hs.lw; have := hs.lm; simp [Piece.rrows]; omega
    have hrsz := rrows_size hs
    subst hrows
    refine pwp_range p.rrows.length (fun i (q : Int × ByteArray) => ⟨[(3, .tsl 0 ver3 0), (8, .d (.str q.2)), (9, .d (.int .i64 q.1)), (10, .d (.int .i64 i))], ⟨[some (p.cells.map .d)], [0], [some ⟨1, p.rrows.map .str, ver3, 0⟩]⟩⟩)
     (fun i q => chkRows p.rrows 0 0 = chkRows (p.rrows.drop i) i q.1 ∧ rText p.rrows ⟨#[]⟩ = rText (p.rrows.drop i) q.2 ∧ 0 ≤ q.1 ∧ q.1 ≤ (i : Int) * 14000000000000 ∧ q.2.size ≤ i * 5021) 0 (0, ⟨#[]⟩) (Nat.zero_le _) rfl ⟨rfl, rfl, by decide, by decide, Nat.le_refl _⟩ (fun i q g1 hix => ?_) (fun q hix => ?_)
    ·obtain ⟨c, t⟩ := q
     obtain ⟨r1, rt, r2, r3, r4⟩ := hix
     simp only at r1 rt r2 r3 r4
     obtain ⟨g2, g3, g6⟩ := rng g1 (by omega)
     have hr := hrsz _ (getD_mem g1)
     rw [drop_cons g1, chkRows] at r1
     rw [drop_cons g1, rText] at rt
     have hgd : ((p.rrows.map DV.str).getD i default) = .str (p.rrows.getD i default) := getD_map g1
     simp only [g2, g3, g1, Int.toNat_natCast, List.length_map, Nat.sub_zero, RN, qA, qB, qC, qD, qE, qF]
     generalize p.rrows.getD i default = r at *
     have hi : (i : Int) ≤ 2100 := by omega
     refine pwp_range r.size (fun k (c' : Int) => ⟨[(3, .tsl 0 ver3 0), (8, .d (.str t)), (9, .d (.int .i64 c')), (10, .d (.int .i64 i)), (11, .d (.int .i64 k))], ⟨[some (p.cells.map .d)], [0], [some ⟨1, p.rrows.map .str, ver3, 0⟩]⟩⟩)
      (fun k c' => c' = chkK r i k c ∧ 0 ≤ c' ∧ c' ≤ (i : Int) * 14000000000000 + (k : Int) * 2700000000) 0 c (Nat.zero_le _) rfl ⟨rfl, r2, by omega⟩ (fun k c' e1 hjx => ?_) (fun c' hjx => ?_)
     ·obtain ⟨s1, s2, s3⟩ := hjx
      obtain ⟨e2, e3, e6⟩ := rng e1 (by omega)
      have hb : (r.data.getD k 0).toNat < 256 := UInt8.toNat_lt _
      have hx0 : (0 : Int) ≤ ((r.data.getD k 0).toNat : Int) * ((k : Int) + 1) := Int.mul_nonneg (by omega) (by omega)
      have hx1 : ((r.data.getD k 0).toNat : Int) * ((k : Int) + 1) ≤ 255 * 5020 := Int.mul_le_mul (by omega) (by omega) (by omega) (by omega)
      have hy0 : (0 : Int) ≤ ((r.data.getD k 0).toNat : Int) * ((k : Int) + 1) * ((i : Int) + 1) := Int.mul_nonneg hx0 (by omega)
      have hy1 : ((r.data.getD k 0).toNat : Int) * ((k : Int) + 1) * ((i : Int) + 1) ≤ 255 * 5020 * 2101 := Int.mul_le_mul hx1 (by omega) (by omega) (by omega)
      have v0 : IntKind.i64.wrap ((r.data.getD k 0).toNat : Int) = ((r.data.getD k 0).toNat : Int) := w64_in (by omega)
      have v1 : ((k + 1 : Nat) : Int) = (k : Int) + 1 := by omega
      have v2 : ((i + 1 : Nat) : Int) = (i : Int) + 1 := by omega
      have v3 : IntKind.i64.wrap (((r.data.getD k 0).toNat : Int) * ((k : Int) + 1)) = ((r.data.getD k 0).toNat : Int) * ((k : Int) + 1) := w64_in (by omega)
      have v4 : IntKind.i64.wrap (((r.data.getD k 0).toNat : Int) * ((k : Int) + 1) * ((i : Int) + 1)) = ((r.data.getD k 0).toNat : Int) * ((k : Int) + 1) * ((i : Int) + 1) := w64_in (by omega)
      have v5 : IntKind.i64.wrap (c' + ((r.data.getD k 0).toNat : Int) * ((k : Int) + 1) * ((i : Int) + 1)) = c' + ((r.data.getD k 0).toNat : Int) * ((k : Int) + 1) * ((i : Int) + 1) := w64_in (by omega)
      rw [v1] at e6
      rw [v2] at g6
      simp only [g3, g1, Int.toNat_natCast, List.length_map, Nat.sub_zero, hgd, dcells_str, e2, e3, e1, v0, e6, g6, v3, v4, v5, RN, qA, qB, qC, qD, qE, qF]
      refine up_same (c' + ((r.data.getD k 0).toNat : Int) * ((k : Int) + 1) * ((i : Int) + 1)) e1 ?_ ⟨by rw [chkK, s1], by omega, by omega⟩ (by simp) (by simp) rfl ?_
      ·rw [← v1]; rfl
      ·simp [PV.upto]
     ·obtain ⟨s1, s2, s3⟩ := hjx
      have h10 : (⟨#[10]⟩ : ByteArray).size = 1 := rfl
      simp only [g3, g1, Int.toNat_natCast, List.length_map, Nat.sub_zero, hgd, dcells_str, Int.lt_irrefl, bin_str, str_add, g6, RN, qA, qB, qC, qD, qE, qF]
      have hts : (t ++ r).size = t.size + r.size := ByteArray.size_append
      refine ⟨by omega, by omega, ?_⟩
      refine up_same (c', t ++ r ++ ⟨#[10]⟩) g1 rfl ⟨by rw [r1, s1], rt, s2, by simp only; omega, by simp only [ByteArray.size_append]; omega⟩ (by simp) (by simp) rfl ?_
      simp [PV.upto]
    ·obtain ⟨c, t⟩ := q
     obtain ⟨r1, rt, r2, r3, r4⟩ := hix
     simp only at r1 rt r2 r3 r4
     rw [List.drop_length, chkRows] at r1
     rw [List.drop_length, rText] at rt
     have hd0 : 0 ≤ c.tmod 127 := Int.tmod_nonneg _ r2
     have hd1 : c.tmod 127 < 127 := Int.tmod_lt_of_pos _ (by decide)
     have hp : p.print = rPrint t (c.tmod 127).toNat := by rw [Piece.print, r1, rt]
     rw [hp]
     have z127 : (127 : Int) ≠ 0 := by decide
     have z100 : (100 : Int) ≠ 0 := by decide
     have z10 : (10 : Int) ≠ 0 := by decide
     obtain ⟨m, hm⟩ := Int.eq_ofNat_of_zero_le hd0
     rw [hm] at hd1
     have e1 : (m : Int).tdiv 100 = ((m / 100 : Nat) : Int) := (Int.ofNat_tdiv m 100).symm
     have e2 : (m : Int).tdiv 10 = ((m / 10 : Nat) : Int) := (Int.ofNat_tdiv m 10).symm
     have e3 : ∀ x : Nat, (x : Int).tmod 10 = ((x % 10 : Nat) : Int) := fun x => (Int.ofNat_tmod x 10).symm
     have v1 : IntKind.i64.wrap ((m / 100 : Nat) : Int) = ((m / 100 : Nat) : Int) := w64_in (by omega)
     have v2 : IntKind.i64.wrap ((m / 10 : Nat) : Int) = ((m / 10 : Nat) : Int) := w64_in (by omega)
     have y1 := decS_size (m / 100)
     have y2 := decS_size (m / 10 % 10)
     have y3 := decS_size (m % 10)
     have y0 : (⟨#[101, 110, 100, 32]⟩ : ByteArray).size = 4 := rfl
     have y4 : (⟨#[10]⟩ : ByteArray).size = 1 := rfl
     simp only [Int.lt_irrefl, List.length_map, Nat.sub_zero, bin_str, str_add, z127, z100, z10, hm, e1, e2, e3, v1, v2, RN, qA, qB, qC, qD, qE, qF]
     refine ⟨by omega, ?_⟩
     refine call_d rfl rfl (Decimal_c (m / 100) (by omega)) ?_
     simp only [bin_str, str_add, RN, qA, qB, qC, qD, qE, qF]
     refine ⟨by simp only [ByteArray.size_append]; omega, ?_⟩
     refine call_d rfl rfl (Decimal_c (m / 10 % 10) (by omega)) ?_
     simp only [bin_str, str_add, RN, qA, qB, qC, qD, qE, qF]
     refine ⟨by simp only [ByteArray.size_append]; omega, ?_⟩
     refine call_d rfl rfl (Decimal_c (m % 10) (by omega)) ?_
     simp only [bin_str, str_add, RN, qA, qB, qC, qD, qE, qF]
     refine ⟨by simp only [ByteArray.size_append]; omega, by simp only [ByteArray.size_append]; omega, ?_⟩
     rw [rPrint, Int.toNat_natCast]
end Go.Tel
namespace Go.Tel
def drawingB : ByteArray := ⟨#[112, 105, 101, 99, 101, 32, 50, 48, 32, 50, 48, 32, 48, 32, 48, 32, 48, 10, 99, 101, 110, 116, 114, 101, 32, 49, 48, 32, 49, 48, 10, 119, 104, 101, 101, 108, 32, 48, 32, 48, 32, 48, 32, 53, 10, 101, 110, 100, 32, 48, 53, 50, 10]⟩
def drawnP : Piece := ⟨20, 20, 0, 0, 0, [⟨10, 10⟩], [⟨0, 0, 0, 5⟩], []⟩
set_option maxRecDepth 100000 in
theorem kn_parsed : parsedS drawingB = some drawnP := by decide +kernel
theorem kn_read : readS drawingB = (drawnP, 0) := by decide +kernel
theorem kn_print : drawnP.print.data.toList = drawingB.data.toList := by decide +kernel
theorem kn_ratios : lawP.ratios 0 = (some [⟨1, 1⟩, ⟨-3, 2⟩, ⟨-3, 2⟩, ⟨5, 2⟩], 0) := by decide +kernel
theorem kn_sort : ([0, 4, 8, 1, 5, 9] : List Int).mergeSort (fun x y => decide (x ≤ y)) = [0, 1, 4, 5, 8, 9] := by
 simp [List.mergeSort, List.MergeSort.Internal.splitInTwo, List.merge]
theorem kn_out : outMarks 12 4 3 [0, 1] = [0, 1, 4, 5, 8, 9] := by
 have h : rawMarks 12 4 (Int.toNat 3) [0, 1] = [0, 4, 8, 1, 5, 9] := by decide +kernel
 rw [outMarks, h, kn_sort]
 decide +kernel
theorem kn_marks : marksS 12 4 3 [0, 1] = ([0, 1, 4, 5, 8, 9], ⟨1, 3⟩, 0) := by
 rw [marksS, if_pos (by decide +kernel), kn_out]
 decide +kernel
theorem kn_frame : lawP.frame = (42, 34, 0) := by decide +kernel
theorem kn_even : evenS 12 [3, 11] = (3, [7], 0) := by decide +kernel
def lawQ : Piece := { lawP with ws := [⟨0, 0, 0, 12⟩, ⟨1, 0, 0, 8⟩, ⟨1, 0, 1, 10⟩, ⟨2, 0, 1, 7⟩] }
theorem kn_fault : lawP.Fault.2 = 5 := by decide +kernel
theorem kn_faultR : lawR.Fault = (⟨2, 3, 3⟩, 0) := by decide +kernel
theorem kn_spares : lawQ.spares = (some [2], 0) := by decide +kernel
theorem kn_place : lawP.place 5 0 1 = (⟨28, 8⟩, 0) := by decide +kernel
theorem kn_layers : lawR.layers = (some [0, 0, 1, 0], 0) := by decide +kernel
theorem kn_circles : lawD.circles [24, 35, 36] = (some [1, 2], 0) := by decide +kernel
theorem kn_cuts : lawD.cuts 36 = (⟨2, 1, 3⟩, 0) := by decide +kernel
end Go.Tel
open Nat renaming reduceBEq → qA, reduceAdd → qB, reduceSub → qC, reduceEqDiff → qD, reduceLT → qE, reduceLeDiff → qF
namespace Go.Tel
open Go.Am
def KnownC : Prop := Pure Go.Tel.C F.law_known [] (.d (.bool true)) []
def QC : Prop := Pure Go.Tel.C F.law_Q [] (.d lawQ.dv) []
theorem strip_P (p : Piece) : [p.dv].map DV.strip = [p.dv] := by
 rw [dv_Piece]; simp [DV.strip]
theorem strip_P2 (p : Piece) (n : Int) : [p.dv, .int .i64 n].map DV.strip = [p.dv, .int .i64 n] := by
 rw [dv_Piece]; simp [DV.strip]
theorem strip_P4 (p : Piece) (n m k : Int) : [p.dv, .int .i64 n, .int .i64 m, .int .i64 k].map DV.strip = [p.dv, .int .i64 n, .int .i64 m, .int .i64 k] := by
 rw [dv_Piece]; simp [DV.strip]
theorem strip_D (p : Dvd) (n : Int) : [p.dv, .int .i64 n].map DV.strip = [p.dv, .int .i64 n] := by
 rw [dv_Dvd]; simp [DV.strip]
set_option maxRecDepth 10000 in
set_option maxHeartbeats 2000000 in
theorem known_c (hq : QC) : KnownC := by
 have hq : Pure C F.law_Q [] (.d lawQ.dv) [] := hq
 have f1 := Fault_c lay_c fault_c lawP (by decide) (by decide) (by decide)
 have f2 := Fault_c lay_c fault_c lawR (by decide) (by decide) (by decide)
 have f3 := Spares_c lay_c fault_c lawQ (by decide) (by decide) (by decide)
 have f4 := Frame_c lawP (by decide) (by decide) (by decide)
 have f5 := Ratios_c lawP (by decide) (by decide) (by decide) 0 (fun _ _ => by decide +kernel)
 have f6 := Place_c lay_c lawP (by decide) (by decide) (by decide) 5 0 1
 have f7 := Layers_c lawR (by decide) (by decide) (by decide)
 have f8 := Cuts_c lawD 36 (by decide)
 have f9 := Circles_c lawD [24, 35, 36] (by decide) (by decide)
 have f10 := Marks_c 12 4 3 [0, 1] (by decide)
 have f11 := Even_c 12 [3, 11] (by decide)
 have f12 := Read_c drawingB
 rw [kn_frame] at f4
 rw [kn_ratios] at f5
 rw [kn_place] at f6
 rw [kn_layers] at f7
 rw [kn_cuts] at f8
 rw [kn_circles] at f9
 rw [kn_marks] at f10
 rw [kn_even] at f11
 rw [kn_read] at f12
 rw [kn_faultR] at f2
 rw [kn_spares] at f3
 rw [kn_fault] at f1
 show Pure C F.law_known [] (.d (.bool true)) []
 refine pure_of_pwp_d mixed rfl ok_law_known ?_
 simp only [pc_law_known, rs_law_known, RN, qA, qB, qC, qD, qE, qF]
 refine call_d rfl rfl P_c ?_
 refine call_d rfl (strip_P _) f1 ?_
 simp only [dv_Flt, RN, qA, qB, qC, qD, qE, qF]
 refine call_d rfl rfl R_c ?_
 refine call_d rfl (strip_P _) f2 ?_
 simp only [dv_Flt, RN, qA, qB, qC, qD, qE, qF]
 refine call_d rfl rfl hq ?_
 refine call_d rfl (strip_P _) f3 ?_
 simp only [RN, qA, qB, qC, qD, qE, qF]
 refine call_d rfl rfl P_c ?_
 refine call_d rfl (strip_P _) f4 ?_
 simp only [RN, qA, qB, qC, qD, qE, qF]
 refine call_d rfl rfl P_c ?_
 refine call_d rfl (strip_P2 _ _) f5 ?_
 simp only [slD, RN, qA, qB, qC, qD, qE, qF]
 refine call_d rfl rfl P_c ?_
 refine call_d rfl (strip_P4 _ _ _ _) f6 ?_
 simp only [dv_Pt, RN, qA, qB, qC, qD, qE, qF]
 refine call_d rfl rfl R_c ?_
 refine call_d rfl (strip_P _) f7 ?_
 simp only [RN, qA, qB, qC, qD, qE, qF]
 refine call_d rfl rfl D_c ?_
 refine call_d rfl (strip_D _ _) f8 ?_
 simp only [dv_Ix, RN, qA, qB, qC, qD, qE, qF]
 refine call_d rfl rfl D_c ?_
 refine mkSl_d (ds := [_, _, _]) rfl ?_
 refine call_d rfl (by rw [dv_Dvd]; rfl) f9 ?_
 simp only [RN, qA, qB, qC, qD, qE, qF]
 refine mkSl_d (ds := [_, _]) rfl ?_
 refine call_d rfl rfl f10 ?_
 simp only [Sp.dv, RN, qA, qB, qC, qD, qE, qF]
 refine mkSl_d (ds := [_, _]) rfl ?_
 refine call_d rfl rfl f11 ?_
 simp only [RN, qA, qB, qC, qD, qE, qF]
 refine call_d rfl rfl f12 ?_
 simp only [dv_Piece, drawnP, RN, qA, qB, qC, qD, qE, qF]
 clear f1 f2 f3 f4 f5 f6 f7 f8 f9 f10 f11 f12
 have n5 : ((5 : Int) != 5) = false := rfl
 have n0 : ((0 : Int) != 0) = false := rfl
 have n42 : ((42 : Int) != 42) = false := rfl
 have n34 : ((34 : Int) != 34) = false := rfl
 have m3 : ((3 : Int) == 3) = true := rfl
 simp only [n5, n0, n42, n34, m3, RN, qA, qB, qC, qD, qE, qF]
 have tt : (true != true) = false := rfl
 have tf : (true != false) = true := rfl
 have s1 : decide (([2] : List Int) = [2]) = true := by decide
 have s2 : decide (([0, 0, 1, 0] : List Int) = [0, 0, 1, 0]) = true := by decide
 have s3 : decide (([1, 2] : List Int) = [1, 2]) = true := by decide
 have s4 : decide (([0, 1, 4, 5, 8, 9] : List Int) = [0, 1, 4, 5, 8, 9]) = true := by decide
 have s5 : decide (([7] : List Int) = [7]) = true := by decide
 rw [ev_binA (t := true) rfl]
 simp only [tt, bestD, DV.strip, dcells_int, dv_int, RN, qA, qB, qC, qD, qE, qF]
 refine call_d rfl rfl (Same_c [2] [2] (by decide)) ?_
 simp only [s1, n42, n34, RN, qA, qB, qC, qD, qE, qF]
 refine mkSl_d (ds := [_, _, _, _]) rfl ?_
 have s6 : decide (([⟨1, 1⟩, ⟨-3, 2⟩, ⟨-3, 2⟩, ⟨5, 2⟩] : List Tn) = [⟨1, 1⟩, ⟨-3, 2⟩, ⟨-3, 2⟩, ⟨5, 2⟩]) = true := by decide
 refine call_d rfl rfl (SameTurns_c [⟨1, 1⟩, ⟨-3, 2⟩, ⟨-3, 2⟩, ⟨5, 2⟩] [⟨1, 1⟩, ⟨-3, 2⟩, ⟨-3, 2⟩, ⟨5, 2⟩] (by decide)) ?_
 simp only [s6, RN, qA, qB, qC, qD, qE, qF]
 rw [ev_binA (t := true) rfl]
 simp only [tt, ev_mkSl4, dv_int, RN, qA, qB, qC, qD, qE, qF]
 refine call_d rfl rfl (Same_c [0, 0, 1, 0] [0, 0, 1, 0] (by decide)) ?_
 simp only [s2, RN, qA, qB, qC, qD, qE, qF]
 rw [ev_binA (t := true) rfl]
 simp only [tt, ev_mkSl2, dv_int, RN, qA, qB, qC, qD, qE, qF]
 refine call_d rfl rfl (Same_c [1, 2] [1, 2] (by decide)) ?_
 simp only [s3, RN, qA, qB, qC, qD, qE, qF]
 refine mkSl_d (ds := [_, _, _, _, _, _]) rfl ?_
 refine call_d rfl rfl (Same_c [0, 1, 4, 5, 8, 9] [0, 1, 4, 5, 8, 9] (by decide)) ?_
 simp only [s4, RN, qA, qB, qC, qD, qE, qF]
 rw [ev_binA (t := true) rfl]
 simp only [tf, m3, ev_mkSl1, DV.strip, dcells_int, RN, qA, qB, qC, qD, qE, qF]
 refine call_d rfl rfl (Same_c [7] [7] (by decide)) ?_
 simp only [s5, RN, qA, qB, qC, qD, qE, qF]
 have hz := Print_c drawnP { nums := by decide, cs := by decide, ws := by decide, ms := by decide, lc := by decide, lw := by decide, lm := by decide }
 refine call_d rfl (by rw [dv_Piece]; rfl) hz ?_
 have e9 : (drawnP.print.toList == drawingB.toList) = true := by rw [Go.Lib.toList_data, Go.Lib.toList_data, kn_print]; exact beq_self_eq_true _
 rw [drawingB] at e9
 simp only [bin_str, str_eql, e9, RN, qA, qB, qC, qD, qE, qF]
end Go.Tel
open Nat renaming reduceBEq → qA, reduceAdd → qB, reduceSub → qC, reduceEqDiff → qD, reduceLT → qE, reduceLeDiff → qF
namespace Go.Tel
open Go.Am
set_option maxRecDepth 10000 in
theorem PR_c : Pure C F.law_P [] (.agg [.d (.int .i64 60), .d (.int .i64 50), .d (.int .i64 1), .d (.int .i64 1), .d (.int .i64 2), .d (.slice true (lawP.cs.map Pt.dv)), .tsl 0 0 0, .d (.slice true (lawP.ms.map Ms.dv))]) [⟨4, lawP.ws.map Wh.dv, 0, 1⟩] := by
 refine pure_of_pwp mixed rfl ok_law_P ?_
 simp only [pc_law_P, rs_law_P, RN, qA, qB, qC, qD, qE, qF]
 refine mkSl_d (ds := [_, _, _]) rfl ?_
 simp only [RN, qA, qB, qC, qD, qE, qF]
 refine mkSlR_d (ds := [_, _, _, _]) rfl (by decide) (by decide) ?_
 simp only [RN, qA, qB, qC, qD, qE, qF]
 refine mkSl_d (ds := [_, _]) rfl ?_
 simp only [fillC_t, allD_t, Option.map_none, aggO_none, cells_agg, isDead_agg, one_t, DV.strip, RN, qA, qB, qC, qD, qE, qF]
 exact ⟨[(0, 0)], ⟨fun q hq => by simp at hq; subst hq; rfl, by simp⟩, rfl, rfl⟩
set_option maxRecDepth 10000 in
theorem Q_c : Pure C F.law_Q [] (.d lawQ.dv) [] := by
 refine pure_of_pwp_fs mixed rfl ok_law_Q ?_
 simp only [pc_law_Q, rs_law_Q, RN, qA, qB, qC, qD, qE, qF]
 refine call_r rfl rfl PR_c (by simp) ?_
 have s0 : PV.shift 0 (.agg [.d (.int .i64 60), .d (.int .i64 50), .d (.int .i64 1), .d (.int .i64 1), .d (.int .i64 2), .d (.slice true (lawP.cs.map Pt.dv)), .tsl 0 0 0, .d (.slice true (lawP.ms.map Ms.dv))]) = .agg [.d (.int .i64 60), .d (.int .i64 50), .d (.int .i64 1), .d (.int .i64 1), .d (.int .i64 2), .d (.slice true (lawP.cs.map Pt.dv)), .tsl 0 0 0, .d (.slice true (lawP.ms.map Ms.dv))] := rfl
 have i0 : (0 : Int) ≤ 3 := by decide
 have i1 : (3 : Int).toNat < (lawP.ws.map Wh.dv).length := by decide
 simp only [s0, cells_agg, isDead_agg, one_t, i0, i1, allD_t, Option.map_none, aggO_none, RN, qA, qB, qC, qD, qE, qF]
 refine ⟨rfl, by decide, rfl, rfl, by decide, ?_⟩
 simp only [allD_t, Option.map_none, aggO_none, cells_agg, one_t, RN, qA, qB, qC, qD, qE, qF]
 exact ⟨_, rfl, by rw [dv_Piece]; rfl⟩
theorem known : KnownC := known_c Q_c
end Go.Tel
