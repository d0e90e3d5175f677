/-
  Part 22 of the proof of a law of plates: an abstract machine over the model, contracts of functions, plain laws.
  Conditions: none.
-/
import Derived.Test.YticjmjdcggomgaaGreatDoorM21
set_option linter.all false
open Nat renaming reduceBEq → qA, reduceAdd → qB, reduceSub → qC, reduceEqDiff → qD, reduceLT → qE, reduceLeDiff → qF
namespace Go.Am
theorem frzV_d {K : St → Prop} {x : DV} {t : Nat} {ts : List Nat} {env : List (Nat × PV)} {M : Mem} : frzV (.d x) t ts K env M = frzSt ts K ⟨(t, .d x) :: env, M⟩ := by
 simp only [frzV, datum]
 rw [show M.frz [PV.d x] = M from frz_d (ds := [x])]
theorem frzV_t {K : St → Prop} {k ver skip sz st : Nat} {xs : List DV} {bs : List (Option (List PV))} {fz : List Nat} {ar : List (Option Arr)} {t : Nat} {ts : List Nat} {env : List (Nat × PV)} (h : ar[k]? = some (some ⟨sz, xs, ver, st⟩))
  (hK : frzSt ts K ⟨(t, .d (.slice false (xs.drop skip))) :: env, ⟨bs, fz, ar.set k (some ⟨sz, xs, ver, 2⟩)⟩⟩) : frzV (.tsl k ver skip) t ts K env ⟨bs, fz, ar⟩ := by
 have hk := (List.getElem?_eq_some_iff.1 h).1
 simp only [frzV, datum_tsl h rfl]
 have e : (⟨bs, fz, ar⟩ : Mem).frz [.tsl k ver skip] = ⟨bs, fz, ar.set k (some ⟨sz, xs, ver, 2⟩)⟩ := by
  simp only [Mem.frz, refsB, refsA, List.flatMap_cons, List.flatMap_nil, List.append_nil, List.nil_append, frzA, List.foldl_cons, List.foldl_nil]
  congr 1
  apply List.ext_getElem?
  intro i
  rw [List.getElem?_modify, List.getElem?_set]
  by_cases hi : k = i
  ·subst hi
   simp [h, hk]
   exact ⟨_, (List.getElem?_eq_some_iff.1 h).2, rfl, rfl, rfl⟩
  ·simp [hi]
 rw [e]; exact hK
end Go.Am
namespace Go.Tel
open Go.Am
def placeLoop : PCode := (.loop (.seq (.region false [ ⟨some 82, .bin .lss, [.t 81, .t 80], none, 0⟩] 0 [1, 2, 4, 8, 10, 11, 80, 81, 82] []) (.seq (.cond (.t 82) .skip (.exit 0)) (.seq (.block 1 (.seq (.region false [ ⟨some 83, .mov, [.t 81], none, 0⟩, ⟨some 12, .mov, [.t 83], none, 0⟩] 0 [1, 2, 4, 8, 10, 11, 12, 80, 81] []) (.scope (.seq (.label 0) (.seq (.region false [ ⟨some 84, .fld 1, [.t 4], none, 0⟩, ⟨some 85, .load false 1, [.t 84], none, 0⟩, ⟨some 86, .bin .add, [.t 85, .c (.int .i64 1)], none, 0⟩, ⟨some 87, .mov, [.c (.int .i64 0)], none, 0⟩] 0 [1, 2, 4, 8, 10, 11, 12, 80, 81, 86, 87] []) (.block 2 (.loop (.seq (.region false [ ⟨some 88, .bin .lss, [.t 87, .t 86], none, 0⟩] 0 [1, 2, 4, 8, 10, 11, 12, 80, 81, 86, 87, 88] []) (.seq (.cond (.t 88) .skip (.exit 2)) (.seq (.block 3 (.seq (.region false [ ⟨some 89, .mov, [.t 87], none, 0⟩, ⟨some 13, .mov, [.t 89], none, 0⟩] 0 [1, 2, 4, 8, 10, 11, 12, 13, 80, 81, 86, 87] []) (.seq (.region false [ ⟨some 90, .mov, [.t 12], none, 0⟩, ⟨some 91, .mov, [.t 13], none, 0⟩, ⟨some 92, .build [.int .i64 0, .int .i64 0] [(0, 1), (1, 1)], [.t 90, .t 91], none, 0⟩, ⟨some 14, .alloc 0 [.int .i64 0, .int .i64 0], [], none, 0⟩, ⟨none, .store 2, [.t 14, .t 92], none, 0⟩] 1 [1, 2, 4, 8, 10, 11, 12, 14, 80, 81, 86, 87] [14]) (.seq (.seq (.region false [ ⟨some 93, .fld 5, [.t 4], none, 0⟩, ⟨some 94, .load false 1, [.t 93], none, 0⟩, ⟨some 95, .load true 2, [.t 14], none, 0⟩, ⟨some 96, .pcallD F.slices_Contains_api_PlatePoint, [.t 94, .t 95], none, 0⟩] 0 [1, 2, 4, 8, 10, 11, 12, 14, 80, 81, 86, 87, 96] []) (.cond (.t 96) (.exit 3) .skip)) (.seq (.region true [ ⟨some 97, .load true 8, [.t 4], none, 1⟩, ⟨some 98, .load true 2, [.t 14], none, 1⟩, ⟨some 99, .fld 6, [.t 4], none, 1⟩, ⟨some 100, .load false 1, [.t 99], none, 1⟩, ⟨some 101, .mov, [.t 2], none, 0⟩, ⟨some 102, .idxA 4, [.t 100, .t 101], none, 1⟩, ⟨some 103, .fld 2, [.t 102], none, 1⟩, ⟨some 104, .load false 1, [.t 103], none, 1⟩, ⟨some 105, .mov, [.t 1], none, 0⟩, ⟨some 106, .mov, [.t 10], none, 0⟩, ⟨some 107, .pcall F.plate_with, [.t 97, .t 98, .t 104, .t 105, .t 106], none, 1⟩, ⟨some 108, .pcallD F.plate_lay, [.t 107, .c (.slice true [])], none, 0⟩, ⟨some 15, .alloc 0 [.int .i64 0, .int .i64 0, .int .i64 0, .int .i64 0, .int .i64 0, .slice true [], .slice true [], .slice true [], .map none, .slice true []], [], none, 0⟩, ⟨none, .store 10, [.t 15, .t 108], none, 4⟩] 1 [1, 2, 4, 8, 10, 11, 12, 14, 15, 80, 81, 86, 87] [15]) (.seq (.seq (.region false [ ⟨some 109, .mov, [.t 11], none, 0⟩, ⟨some 110, .bin .add, [.t 109, .c (.int .i64 1)], none, 0⟩, ⟨some 111, .mov, [.c (.int .i64 0)], none, 0⟩] 0 [1, 2, 4, 8, 10, 11, 12, 14, 15, 80, 81, 86, 87, 110, 111] []) (.block 4 (.loop (.seq (.region false [ ⟨some 112, .bin .lss, [.t 111, .t 110], none, 0⟩] 0 [1, 2, 4, 8, 10, 11, 12, 14, 15, 80, 81, 86, 87, 110, 111, 112] []) (.seq (.cond (.t 112) .skip (.exit 4)) (.seq (.block 5 (.seq (.region false [ ⟨some 113, .mov, [.t 111], none, 0⟩, ⟨some 16, .mov, [.t 113], none, 0⟩] 0 [1, 2, 4, 8, 10, 11, 12, 14, 15, 16, 80, 81, 86, 87, 110, 111] []) (.seq (.region false [ ⟨some 114, .load true 10, [.t 15], none, 0⟩, ⟨some 115, .mov, [.t 16], none, 0⟩, ⟨some 116, .mov, [.t 11], none, 0⟩, ⟨some 117, .pcallD F.plate_laid_wrong, [.t 114, .t 115, .t 116], none, 0⟩, ⟨some 118, .bin .neq, [.t 117, .c (.int .i64 0)], none, 0⟩] 0 [1, 2, 4, 8, 10, 11, 12, 14, 15, 80, 81, 86, 87, 110, 111, 118] []) (.cond (.t 118) (.exit 3) .skip)))) (.region false [ ⟨some 119, .bin .add, [.t 111, .c (.int .i64 1)], none, 0⟩, ⟨some 111, .mov, [.t 119], none, 0⟩] 0 [1, 2, 4, 8, 10, 11, 12, 14, 15, 80, 81, 86, 87, 110, 111] []))))))) (.seq (.region false [ ⟨some 120, .load true 2, [.t 14], none, 0⟩, ⟨none, .store 2, [.t 8, .t 120], none, 0⟩, ⟨some 9, .mov, [.c (.int .i64 0)], none, 0⟩] 0 [8, 9] []) .ret))))))) (.region false [ ⟨some 121, .bin .add, [.t 87, .c (.int .i64 1)], none, 0⟩, ⟨some 87, .mov, [.t 121], none, 0⟩] 0 [1, 2, 4, 8, 10, 11, 12, 80, 81, 86, 87] []))))))))))) (.region false [ ⟨some 122, .bin .add, [.t 81, .c (.int .i64 1)], none, 0⟩, ⟨some 81, .mov, [.t 122], none, 0⟩] 0 [1, 2, 4, 8, 10, 11, 80, 81] [])))))
def Piece.okAt (p : Piece) (teeth a : Int) (others : List Int) (x y : Int) : Bool :=
 !p.cs.contains ⟨x, y⟩ && (upTo (p.ws.length + 1)).all fun i => (p.with ⟨x, y⟩ (p.ws.getD a.toNat default).layer teeth others).wrong [] i p.ws.length == 0
def Piece.placeY (p : Piece) (teeth a : Int) (others : List Int) (x : Int) : Option Pt :=
 (upTo (p.h.toNat + 1)).findSome? fun y => if p.okAt teeth a others x y then some ⟨x, y⟩ else none
def Piece.placeX (p : Piece) (teeth a : Int) (others : List Int) : Option Pt := (upTo (p.w.toNat + 1)).findSome? fun x => p.placeY teeth a others x
theorem with_good {p : Piece} (hg : p.good) {x y layer teeth : Int} {others : List Int} (hx : 0 ≤ x ∧ x ≤ 1000) (hy : 0 ≤ y ∧ y ≤ 1000) (ht : 0 ≤ teeth ∧ teeth ≤ 1000) (hl : 0 ≤ layer ∧ layer ≤ 1000) (hn : p.ws.length ≤ 999) : (p.with ⟨x, y⟩ layer teeth others).good := {
 cs := by
  intro c hc
  simp only [Piece.with, List.mem_append, List.mem_singleton] at hc
  rcases hc with hc | rfl
  ·exact hg.cs c hc
  ·exact ⟨hx.1, hx.2, hy.1, hy.2⟩
 ws := by
  intro w hw
  simp only [Piece.with, List.mem_append, List.mem_singleton] at hw
  rcases hw with hw | rfl
  ·obtain ⟨⟨h1, h2⟩, h3⟩ := hg.ws w hw
   exact ⟨⟨h1, by simp only [Piece.with, List.length_append, List.length_singleton]; omega⟩, h3⟩
  ·exact ⟨⟨by simp only; omega, by simp [Piece.with]⟩, ht.1, ht.2, hl.1, hl.2⟩
 w := hg.w
 h := hg.h
 pl := hg.pl
 ga := hg.ga
 po := hg.po
 lw := by simp only [Piece.with, List.length_append, List.length_singleton]; omega }
section
variable (hlay : LayC)
include hlay in
set_option maxRecDepth 10000 in
set_option maxHeartbeats 2000000 in
theorem placeLoop_pwp (p : Piece) (hg : p.good) (hc : p.cs.length ≤ 900) (hn : p.ws.length ≤ 900) (hm : p.ms.length ≤ 900) (teeth a : Int) (ht : 0 ≤ teeth ∧ teeth ≤ 1000) (ha : p.isW a) (others : List Int) (ho : others.length ≤ 100) (ex : Bool) (ar : List (Option Arr)) (Q : Ex → St → Prop)
  (h0 : p.placeX teeth a others = none → Q (.exit 0) ⟨[(1, .d (.int .i64 teeth)), (2, .d (.int .i64 a)), (4, .d (.cptr [.int .i64 p.w, .int .i64 p.h, .int .i64 p.pl, .int .i64 p.ga, .int .i64 p.po, .slice false (p.cs.map Pt.dv), .slice false (p.ws.map Wh.dv), .slice false (p.ms.map Ms.dv)])), (8, .ptr 1 0), (10, .d (.slice ex (others.map intDV))), (11, .d (.int .i64 p.ws.length)), (80, .d (.int .i64 (p.w.toNat + 1 : Nat))), (81, .d (.int .i64 (p.w.toNat + 1 : Nat))), (82, .d (.bool false))], ⟨[some [.d (.int .i64 p.w), .d (.int .i64 p.h), .d (.int .i64 p.pl), .d (.int .i64 p.ga), .d (.int .i64 p.po), .d (.slice false (p.cs.map Pt.dv)), .d (.slice false (p.ws.map Wh.dv)), .d (.slice false (p.ms.map Ms.dv))], some [.d (.int .i64 0), .d (.int .i64 0)]], [0], ar⟩⟩)
  (hs : ∀ pt bs fz, p.placeX teeth a others = some pt → Q .ret ⟨[(8, .ptr 1 0), (9, .d (.int .i64 0))], ⟨some [.d (.int .i64 p.w), .d (.int .i64 p.h), .d (.int .i64 p.pl), .d (.int .i64 p.ga), .d (.int .i64 p.po), .d (.slice false (p.cs.map Pt.dv)), .d (.slice false (p.ws.map Wh.dv)), .d (.slice false (p.ms.map Ms.dv))] :: some [.d (.int .i64 pt.x), .d (.int .i64 pt.y)] :: bs, fz, ar⟩⟩) :
  pwp C 0 0 placeLoop Q
   ⟨[(1, .d (.int .i64 teeth)), (2, .d (.int .i64 a)), (4, .d (.cptr [.int .i64 p.w, .int .i64 p.h, .int .i64 p.pl, .int .i64 p.ga, .int .i64 p.po, .slice false (p.cs.map Pt.dv), .slice false (p.ws.map Wh.dv), .slice false (p.ms.map Ms.dv)])), (8, .ptr 1 0), (10, .d (.slice ex (others.map intDV))), (11, .d (.int .i64 p.ws.length)), (80, .d (.int .i64 (p.w.toNat + 1 : Nat))), (81, .d (.int .i64 0))],
    ⟨[some [.d (.int .i64 p.w), .d (.int .i64 p.h), .d (.int .i64 p.pl), .d (.int .i64 p.ga), .d (.int .i64 p.po), .d (.slice false (p.cs.map Pt.dv)), .d (.slice false (p.ws.map Wh.dv)), .d (.slice false (p.ms.map Ms.dv))], some [.d (.int .i64 0), .d (.int .i64 0)]], [0], ar⟩⟩ := by
 rw [placeLoop]
 have hw1 := hg.w
 have hh1 := hg.h
 have el : ((p.h.toNat : Nat) : Int) = p.h := by omega
 have eh : IntKind.i64.wrap (p.h + 1) = ((p.h.toNat + 1 : Nat) : Int) := by rw [w64_in (by omega)]; omega
 refine pwp_range (p.w.toNat + 1) (fun x (_ : Unit) => ⟨[(1, .d (.int .i64 teeth)), (2, .d (.int .i64 a)), (4, .d (.cptr [.int .i64 p.w, .int .i64 p.h, .int .i64 p.pl, .int .i64 p.ga, .int .i64 p.po, .slice false (p.cs.map Pt.dv), .slice false (p.ws.map Wh.dv), .slice false (p.ms.map Ms.dv)])), (8, .ptr 1 0), (10, .d (.slice ex (others.map intDV))), (11, .d (.int .i64 p.ws.length)), (80, .d (.int .i64 (p.w.toNat + 1 : Nat))), (81, .d (.int .i64 x))],
   ⟨[some [.d (.int .i64 p.w), .d (.int .i64 p.h), .d (.int .i64 p.pl), .d (.int .i64 p.ga), .d (.int .i64 p.po), .d (.slice false (p.cs.map Pt.dv)), .d (.slice false (p.ws.map Wh.dv)), .d (.slice false (p.ms.map Ms.dv))], some [.d (.int .i64 0), .d (.int .i64 0)]], [0], ar⟩⟩)
  (fun x _ => p.placeX teeth a others = ((upTo (p.w.toNat + 1)).drop x).findSome? fun x => p.placeY teeth a others x) 0 () (Nat.zero_le _) rfl rfl (fun x _ hx hix => ?_) (fun _ hix => ?_)
 ·obtain ⟨x2, x3, x6⟩ := rng hx (by omega)
  rw [drop_cons (by rw [upTo_len]; exact hx), upTo_getD hx, List.findSome?_cons] at hix
  simp only [x2, eh, RN, qA, qB, qC, qD, qE, qF]
  refine pwp_range (p.h.toNat + 1) (fun y (_ : Unit) => ⟨[(1, .d (.int .i64 teeth)), (2, .d (.int .i64 a)), (4, .d (.cptr [.int .i64 p.w, .int .i64 p.h, .int .i64 p.pl, .int .i64 p.ga, .int .i64 p.po, .slice false (p.cs.map Pt.dv), .slice false (p.ws.map Wh.dv), .slice false (p.ms.map Ms.dv)])), (8, .ptr 1 0), (10, .d (.slice ex (others.map intDV))), (11, .d (.int .i64 p.ws.length)), (12, .d (.int .i64 x)), (80, .d (.int .i64 (p.w.toNat + 1 : Nat))), (81, .d (.int .i64 x)), (86, .d (.int .i64 (p.h.toNat + 1 : Nat))), (87, .d (.int .i64 y))], ⟨[some [.d (.int .i64 p.w), .d (.int .i64 p.h), .d (.int .i64 p.pl), .d (.int .i64 p.ga), .d (.int .i64 p.po), .d (.slice false (p.cs.map Pt.dv)), .d (.slice false (p.ws.map Wh.dv)), .d (.slice false (p.ms.map Ms.dv))], some [.d (.int .i64 0), .d (.int .i64 0)]], [0], ar⟩⟩)
   (fun y _ => p.placeY teeth a others x = ((upTo (p.h.toNat + 1)).drop y).findSome? fun y => if p.okAt teeth a others x y then some ⟨x, y⟩ else none) 0 () (Nat.zero_le _) rfl rfl (fun y _ hy hiy => ?_) (fun _ hiy => ?_)
  ·obtain ⟨y2, y3, y6⟩ := rng hy (by omega)
   rw [drop_cons (by rw [upTo_len]; exact hy), upTo_getD hy, List.findSome?_cons] at hiy
   have hcp := containsPt_c p.cs ⟨x, y⟩ (by omega)
   rw [dv_Pt] at hcp
   simp only [y2, RN, qA, qB, qC, qD, qE, qF]
   refine call_d rfl rfl hcp ?_
   cases hC : p.cs.contains ⟨x, y⟩
   ·obtain ⟨a1, a2⟩ := ha
    have hwi := hg.ws _ (getD_mem a2)
    have hwc := with_c p ⟨x, y⟩ (p.ws.getD a.toNat default).layer teeth others (by omega) (by omega) (by omega) (by omega)
    obtain ⟨q, hq⟩ : ∃ q, q = p.with ⟨x, y⟩ (p.ws.getD a.toNat default).layer teeth others := ⟨_, rfl⟩
    have hqg : q.good := by rw [hq]; exact with_good hg (by omega) (by omega) ht (by omega) (by omega)
    have hqw : q.ws.length = p.ws.length + 1 := by rw [hq]; simp [Piece.with]
    have hqm : q.ms.length ≤ 1000 := by rw [hq]; simp only [Piece.with, List.length_append, List.length_map]; omega
    have hokq : p.okAt teeth a others x y = (upTo (p.ws.length + 1)).all fun i => q.wrong [] i p.ws.length == 0 := by rw [Piece.okAt, hC, hq]; rfl
    rw [← hq] at hwc
    have hl := hlay q [] hqm (by simp)
    have en : IntKind.i64.wrap ((p.ws.length : Int) + 1) = ((p.ws.length + 1 : Nat) : Int) := w64_nat (by omega)
    simp only [dv_Piece, dv_Pt] at hwc
    simp only [dv_Piece] at hl
    simp only [getD_map, a1, a2, List.length_map, dv_Wh, List.not_mem_nil, RN, qA, qB, qC, qD, qE, qF]
    refine call_r rfl rfl hwc (by simp) ?_
    simp only [PV.shift, shift0, List.map_nil, List.append_nil]
    refine call_d rfl rfl hl ?_
    simp only [dv_Laid]
    simp only [List.not_mem_nil, en, RN, qA, qB, qC, qD, qE, qF]
    refine pwp_range (p.ws.length + 1) (fun i (_ : Unit) => ⟨[(1, .d (.int .i64 teeth)), (2, .d (.int .i64 a)), (4, .d (.cptr [.int .i64 p.w, .int .i64 p.h, .int .i64 p.pl, .int .i64 p.ga, .int .i64 p.po, .slice false (p.cs.map Pt.dv), .slice false (p.ws.map Wh.dv), .slice false (p.ms.map Ms.dv)])), (8, .ptr 1 0), (10, .d (.slice ex (others.map intDV))), (11, .d (.int .i64 p.ws.length)), (12, .d (.int .i64 x)), (14, .d (.cptr [.int .i64 x, .int .i64 y])), (15, .d (.cptr (q.laid []).cells)), (80, .d (.int .i64 (p.w.toNat + 1 : Nat))), (81, .d (.int .i64 x)), (86, .d (.int .i64 (p.h.toNat + 1 : Nat))), (87, .d (.int .i64 y)), (110, .d (.int .i64 (p.ws.length + 1 : Nat))), (111, .d (.int .i64 i))],
      ⟨[some [.d (.int .i64 p.w), .d (.int .i64 p.h), .d (.int .i64 p.pl), .d (.int .i64 p.ga), .d (.int .i64 p.po), .d (.slice false (p.cs.map Pt.dv)), .d (.slice false (p.ws.map Wh.dv)), .d (.slice false (p.ms.map Ms.dv))], some [.d (.int .i64 0), .d (.int .i64 0)], some [.d (.int .i64 x), .d (.int .i64 y)], some ((q.laid []).cells.map .d)], [3, 2, 0], ar⟩⟩)
     (fun i _ => p.okAt teeth a others x y = ((upTo (p.ws.length + 1)).drop i).all fun i => q.wrong [] i p.ws.length == 0) 0 () (Nat.zero_le _) rfl hokq (fun i _ hi hii => ?_) (fun _ hii => ?_)
    ·obtain ⟨i2, i3, i6⟩ := rng hi (by omega)
     rw [drop_cons (by rw [upTo_len]; exact hi), upTo_getD hi, List.all_cons] at hii
     have hwr : Pure C F.plate_laid_wrong [(q.laid []).dv, .int .i64 i, .int .i64 p.ws.length] (.d (.int .i64 (q.wrong [] i p.ws.length))) [] := laid_wrong_c (q.laid []) hqg (Piece.laid_fine q []) (by simp [Piece.laid]) i p.ws.length ⟨by omega, by show _ < q.ws.length; omega⟩ ⟨by omega, by show _ < q.ws.length; omega⟩
     rw [dv_Laid] at hwr
     simp only [i2, Laid.cells, RN, qA, qB, qC, qD, qE, qF]
     refine call_d rfl rfl hwr ?_
     by_cases hz : q.wrong [] i p.ws.length = 0
     ·have hz1 : (q.wrong [] i p.ws.length != 0) = false := by rw [hz]; rfl
      have hz2 : (q.wrong [] i p.ws.length == 0) = true := by rw [hz]; rfl
      rw [hz2, Bool.true_and] at hii
      simp only [hz1, i6, RN, qA, qB, qC, qD, qE, qF]
      exact up_same () hi rfl hii (by simp) (by simp) (by simp [PV.upto]) (by simp [PV.upto])
     ·have hz1 : (q.wrong [] i p.ws.length != 0) = true := bne_iff_ne.2 hz
      have hz2 : (q.wrong [] i p.ws.length == 0) = false := beq_eq_false_iff_ne.2 hz
      rw [hz2, Bool.false_and] at hii
      simp only [hii, Bool.false_eq_true, if_false] at hiy
      simp only [hz1, y6, RN, qA, qB, qC, qD, qE, qF]
      exact up_take 2 ar.length () hy (by simp) hiy (by simp) (by simp) (by simp [PV.upto]) (by simp [PV.upto])
    ·rw [List.drop_eq_nil_of_le (by rw [upTo_len]; omega), List.all_nil] at hii
     simp only [hii, if_true] at hiy
     rw [hiy] at hix
     simp only [Int.lt_irrefl, List.not_mem_nil, RN, qA, qB, qC, qD, qE, qF]
     exact hs ⟨x, y⟩ _ _ hix
   ·have hok : p.okAt teeth a others x y = false := by rw [Piece.okAt, hC]; rfl
    simp only [hok, Bool.false_eq_true, if_false] at hiy
    simp only [y6, RN, qA, qB, qC, qD, qE, qF]
    exact up_take 2 ar.length () hy (by simp) hiy (by simp) (by simp) (by simp [PV.upto]) (by simp [PV.upto])
  ·rw [List.drop_eq_nil_of_le (by rw [upTo_len]; omega), List.findSome?_nil] at hiy
   rw [hiy] at hix
   simp only [Int.lt_irrefl, x6, RN, qA, qB, qC, qD, qE, qF]
   exact up_same () hx rfl hix (by simp) (by simp) (by simp [PV.upto]) (by simp [PV.upto])
 ·rw [List.drop_eq_nil_of_le (by rw [upTo_len]; omega), List.findSome?_nil] at hix
  simp only [Int.lt_irrefl, RN, qA, qB, qC, qD, qE, qF]
  exact h0 hix
def Piece.placeBad (p : Piece) (teeth a b : Int) : Bool := !p.ok || !inR teeth 4 50 || !inR a 0 (p.ws.length - 1) || (b != -1 && (!inR b 0 (p.ws.length - 1) || a == b))
def othersOf (a b : Int) : List Int := if b ≥ 0 then [a, b] else [a]
def Piece.place (p : Piece) (teeth a b : Int) : Pt × Int :=
 if p.placeBad teeth a b then (default, 2)
 else if p.cs.length == 6 || p.ws.length == 8 || decide (p.ms.length + (othersOf a b).length > 10) then (default, 3)
 else match p.placeX teeth a (othersOf a b) with | some pt => (pt, 0) | none => (default, 5)
include hlay in
set_option maxRecDepth 10000 in
set_option maxHeartbeats 2000000 in
theorem Place_c (p : Piece) (hc : p.cs.length ≤ 1000) (hw : p.ws.length ≤ 1000) (hm : p.ms.length ≤ 1000) (teeth a b : Int) : Pure C F.plate_Place [p.dv, .int .i64 teeth, .int .i64 a, .int .i64 b] (.d (.tup [(p.place teeth a b).1.dv, .int .i64 (p.place teeth a b).2])) [] := by
 refine pure_of_pwp_d mixed rfl ok_plate_Place ?_
 have hp := isPiece_c p hc hw hm
 have hwa := isWheel_c p a (by omega)
 have hwb := isWheel_c p b (by omega)
 simp only [dv_Piece] at hp hwa hwb
 simp only [pc_plate_Place, rs_plate_Place, dv_Piece, List.not_mem_nil, RN, qA, qB, qC, qD, qE, qF]
 refine call_d rfl rfl hp ?_
 cases hok : p.ok
 ·simp only [List.not_mem_nil, RN, qA, qB, qC, qD, qE, qF]
  rw [Piece.place, if_pos (by rw [Piece.placeBad, hok]; rfl)]
  rfl
 have hlen := Piece.ok_lens hok
 simp only [RN, qA, qB, qC, qD, qE, qF]
 refine call_d rfl rfl (in_c _ _ _) ?_
 cases hte : inR teeth 4 50
 ·simp only [List.not_mem_nil, RN, qA, qB, qC, qD, qE, qF]
  rw [Piece.place, if_pos (by rw [Piece.placeBad, hok, hte]; rfl)]
  rfl
 simp only [RN, qA, qB, qC, qD, qE, qF]
 refine call_d rfl rfl hwa ?_
 cases hia : inR a 0 (p.ws.length - 1)
 ·simp only [List.not_mem_nil, RN, qA, qB, qC, qD, qE, qF]
  rw [Piece.place, if_pos (by rw [Piece.placeBad, hok, hte, hia]; rfl)]
  rfl
 simp only [RN, qA, qB, qC, qD, qE, qF]
 have hte' : 0 ≤ teeth ∧ teeth ≤ 1000 := by simp only [inR, Bool.and_eq_true, decide_eq_true_eq] at hte; omega
 have hia' : p.isW a := by simp only [inR, Bool.and_eq_true, decide_eq_true_eq] at hia; exact ⟨by omega, by omega⟩
 have hgw := (Piece.ok_good hok).w
 have eww : IntKind.i64.wrap (p.w + 1) = ((p.w.toNat + 1 : Nat) : Int) := by rw [w64_in (by omega)]; omega
 cases hb1 : (b != -1)
 ·have hbe : b = -1 := by simpa using hb1
  subst hbe
  have hbad : p.placeBad teeth a (-1) = false := by rw [Piece.placeBad, hok, hte, hia]; rfl
  have hoth : othersOf a (-1) = [a] := by rw [othersOf, if_neg (by omega)]
  have eln : IntKind.i64.wrap ((p.ms.length : Int) + ((1 : Nat) : Int)) = (p.ms.length : Int) + 1 := by rw [w64_in (by omega)]; rfl
  have hge : ¬ ((-1 : Int) ≥ 0) := by omega
  simp only [hge, ev_mkSl1, List.not_mem_nil, DV.strip, dcells_int, List.length_map, RN, qA, qB, qC, qD, qE, qF]
  cases h6 : (((p.cs.length : Nat) : Int) == 6)
  ·simp only [List.length_map, RN, qA, qB, qC, qD, qE, qF]
   cases h8 : (((p.ws.length : Nat) : Int) == 8)
   ·simp only [List.length_map, eln, RN, qA, qB, qC, qD, qE, qF]
    cases h10 : decide (((p.ms.length : Nat) : Int) + 1 > 10)
    ·simp only [List.length_map, eww, RN, qA, qB, qC, qD, qE, qF]
     simp only [frzV_d]
     have hbig : (p.cs.length == 6 || p.ws.length == 8 || decide (p.ms.length + (othersOf a (-1)).length > 10)) = false := by
      rw [beq_eq_false_iff_ne] at h6 h8
      rw [decide_eq_false_iff_not] at h10
      simp only [Bool.or_eq_false_iff, beq_eq_false_iff_ne, decide_eq_false_iff_not, hoth, List.length_cons, List.length_nil]
      omega
     simp only [List.length_map, eww, List.not_mem_nil, RN, qA, qB, qC, qD, qE, qF]
     refine placeLoop_pwp hlay p (Piece.ok_good hok) (by omega) (by omega) (by omega) teeth a hte' hia' [a] (by simp) _ _ _ (fun hn => ?_) (fun pt bs fz hn => ?_)
     ·simp only [List.not_mem_nil, RN, qA, qB, qC, qD, qE, qF]
      rw [Piece.place, hbad, hbig, hoth, hn]
      rfl
     ·simp only [List.not_mem_nil, RN, qA, qB, qC, qD, qE, qF]
      rw [Piece.place, hbad, hbig, hoth, hn, dv_Pt]
      rfl
    ·have hbig : (p.cs.length == 6 || p.ws.length == 8 || decide (p.ms.length + (othersOf a (-1)).length > 10)) = true := by
      rw [decide_eq_true_eq] at h10
      simp only [Bool.or_eq_true, decide_eq_true_eq, hoth, List.length_cons, List.length_nil]
      right; omega
     simp only [List.not_mem_nil, RN, qA, qB, qC, qD, qE, qF]
     rw [Piece.place, hbad, hbig]
     rfl
   ·have hbig : (p.cs.length == 6 || p.ws.length == 8 || decide (p.ms.length + (othersOf a (-1)).length > 10)) = true := by
     rw [beq_iff_eq] at h8
     simp only [Bool.or_eq_true, beq_iff_eq]
     left; right; omega
    simp only [List.not_mem_nil, RN, qA, qB, qC, qD, qE, qF]
    rw [Piece.place, hbad, hbig]
    rfl
  ·have hbig : (p.cs.length == 6 || p.ws.length == 8 || decide (p.ms.length + (othersOf a (-1)).length > 10)) = true := by
    rw [beq_iff_eq] at h6
    simp only [Bool.or_eq_true, beq_iff_eq]
    left; left; omega
   simp only [List.not_mem_nil, RN, qA, qB, qC, qD, qE, qF]
   rw [Piece.place, hbad, hbig]
   rfl
 ·simp only [RN, qA, qB, qC, qD, qE, qF]
  refine call_d rfl rfl hwb ?_
  cases hib : inR b 0 (p.ws.length - 1)
  ·simp only [List.not_mem_nil, RN, qA, qB, qC, qD, qE, qF]
   rw [Piece.place, if_pos (by rw [Piece.placeBad, hok, hte, hia, hb1, hib]; rfl)]
   rfl
  simp only [RN, qA, qB, qC, qD, qE, qF]
  cases hab : (a == b)
  ·have hbad : p.placeBad teeth a b = false := by rw [Piece.placeBad, hok, hte, hia, hb1, hib, hab]; rfl
   have hge : (b ≥ 0) := by simp only [inR, Bool.and_eq_true, decide_eq_true_eq] at hib; omega
   have hoth : othersOf a b = [a, b] := by rw [othersOf, if_pos hge]
   have eln : IntKind.i64.wrap ((p.ms.length : Int) + ((2 : Nat) : Int)) = (p.ms.length : Int) + 2 := by rw [w64_in (by omega)]; rfl
   simp only [hge, ev_mkSl1, List.not_mem_nil, DV.strip, dcells_int, List.length_map, fits_int, forall_eq, RN, qA, qB, qC, qD, qE, qF]
   refine ⟨(fun h => by cases h), ?_⟩
   cases h6 : (((p.cs.length : Nat) : Int) == 6)
   ·simp only [List.length_map, RN, qA, qB, qC, qD, qE, qF]
    cases h8 : (((p.ws.length : Nat) : Int) == 8)
    ·simp only [List.length_map, eln, RN, qA, qB, qC, qD, qE, qF]
     cases h10 : decide (((p.ms.length : Nat) : Int) + 2 > 10)
     ·simp only [List.length_map, eww, RN, qA, qB, qC, qD, qE, qF]
      refine frzV_t rfl ?_
      have hbig : (p.cs.length == 6 || p.ws.length == 8 || decide (p.ms.length + (othersOf a b).length > 10)) = false := by
       rw [beq_eq_false_iff_ne] at h6 h8
       rw [decide_eq_false_iff_not] at h10
       simp only [Bool.or_eq_false_iff, beq_eq_false_iff_ne, decide_eq_false_iff_not, hoth, List.length_cons, List.length_nil]
       omega
      simp only [List.length_map, eww, List.not_mem_nil, RN, qA, qB, qC, qD, qE, qF]
      refine placeLoop_pwp hlay p (Piece.ok_good hok) (by omega) (by omega) (by omega) teeth a hte' hia' [a, b] (by simp) _ _ _ (fun hn => ?_) (fun pt bs fz hn => ?_)
      ·simp only [List.not_mem_nil, RN, qA, qB, qC, qD, qE, qF]
       rw [Piece.place, hbad, hbig, hoth, hn]
       rfl
      ·simp only [List.not_mem_nil, RN, qA, qB, qC, qD, qE, qF]
       rw [Piece.place, hbad, hbig, hoth, hn, dv_Pt]
       rfl
     ·have hbig : (p.cs.length == 6 || p.ws.length == 8 || decide (p.ms.length + (othersOf a b).length > 10)) = true := by
       rw [decide_eq_true_eq] at h10
       simp only [Bool.or_eq_true, decide_eq_true_eq, hoth, List.length_cons, List.length_nil]
       right; omega
      simp only [List.not_mem_nil, RN, qA, qB, qC, qD, qE, qF]
      rw [Piece.place, hbad, hbig]
      rfl
    ·have hbig : (p.cs.length == 6 || p.ws.length == 8 || decide (p.ms.length + (othersOf a b).length > 10)) = true := by
      rw [beq_iff_eq] at h8
      simp only [Bool.or_eq_true, beq_iff_eq]
      left; right; omega
     simp only [List.not_mem_nil, RN, qA, qB, qC, qD, qE, qF]
     rw [Piece.place, hbad, hbig]
     rfl
   ·have hbig : (p.cs.length == 6 || p.ws.length == 8 || decide (p.ms.length + (othersOf a b).length > 10)) = true := by
     rw [beq_iff_eq] at h6
     simp only [Bool.or_eq_true, beq_iff_eq]
     left; left; omega
    simp only [List.not_mem_nil, RN, qA, qB, qC, qD, qE, qF]
    rw [Piece.place, hbad, hbig]
    rfl
  ·simp only [List.not_mem_nil, RN, qA, qB, qC, qD, qE, qF]
   rw [Piece.place, if_pos (by rw [Piece.placeBad, hok, hte, hia, hb1, hib, hab]; rfl)]
   rfl
end
end Go.Tel
open Nat renaming reduceBEq → qA, reduceAdd → qB, reduceSub → qC, reduceEqDiff → qD, reduceLT → qE, reduceLeDiff → qF
namespace Go.Am
section
variable {C : Ctx} {base nb na : Nat} {K : St → Prop} {KP : DV → Mem → Prop} {L : PV → Mem → Prop} {Q : Ex → St → Prop} {bs : List (Option (List PV))} {fz : List Nat} {ar : List (Option Arr)}
theorem ev_mkMap {i : Nat} : runOp C base (.mkMap i) [] ⟨bs, fz, ar⟩ L KP = (bs[base + i]? = some none ∧ L (.mref (base + i)) ⟨bs.set (base + i) (some [.mapc []]), fz, ar⟩) := propext ⟨id, id⟩
theorem ev_mset {ks : List Nat} {b : Nat} {k : List DV} {v : DV} {l l' : List (DV × DV)} (h1 : bs[b]? = some (some [.mapc l])) (h2 : b ∉ fz) (h3 : cellsEq ks k k = some true) (h4 : mputL ks l k v = some l') (h : L .dead ⟨bs.set b (some [.mapc l']), fz, ar⟩) :
  runOp C base (.mset ks) [.mref b, .d (.agg k), .d v] ⟨bs, fz, ar⟩ L KP := by
 simp only [runOp, Mem.box, h1, h3, h4]
 exact ⟨h2, h⟩
theorem allD_m {b : Nat} {l : List PV} : allD (.mref b :: l) = none := rfl
theorem one_m {b : Nat} : PV.one (.mref b) = true := rfl
theorem isDead_m {b : Nat} : PV.isDead (.mref b) = false := rfl
theorem cells_m {b : Nat} : PV.cells (.mref b) = [.mref b] := rfl
theorem aggO_none {cs : List PV} : aggO none cs = .agg cs := rfl
theorem cells_agg {cs : List PV} : PV.cells (.agg cs) = cs := rfl
theorem isDead_agg {cs : List PV} : PV.isDead (.agg cs) = false := rfl
theorem isAgg_agg {cs : List PV} : PV.isAgg (.agg cs) = true := rfl
theorem fillC_m {cs : List PV} {off : Nat} {ps : List (Nat × Nat)} {b : Nat} {vs : List PV} : fillC cs ((off, 1) :: ps) (.mref b :: vs) = bif decide (off + 1 ≤ cs.length) then fillC (splice cs off [.mref b]) ps vs else none := by
 simp only [fillC, PV.isDead, PV.cells, List.length_singleton, true_and]
 by_cases h2 : off + 1 ≤ cs.length
 ·rw [if_pos h2]; simp [h2]
 ·rw [if_neg h2]; simp [h2]
end
end Go.Am
namespace Go.Tel
open Go.Am
def mmDV (l : List Ms) : List (DV × DV) := l.map fun m => (m.dv, .bool true)
theorem mput_mm (a b : Int) : ∀ (mm : List Ms), mputL [1, 1] (mmDV mm) [.int .i64 a, .int .i64 b] (.bool true) = some (mmDV (if mm.contains ⟨a, b⟩ then mm else mm ++ [⟨a, b⟩]))
 | [] => rfl
 | m :: mm => by
  have ih := mput_mm a b mm
  simp only [mmDV, List.map_cons, dv_Ms] at ih ⊢
  have hc : cellsEq [1, 1] [.int .i64 a, .int .i64 b] [.int .i64 m.a, .int .i64 m.b] = some (decide (a = m.a) && decide (b = m.b)) := by
   by_cases h1 : a = m.a <;> by_cases h2 : b = m.b <;> simp [cellsEq, h1, h2]
  by_cases h : a = m.a ∧ b = m.b
  ·obtain ⟨rfl, rfl⟩ := h
   have e : (⟨m.a, m.b⟩ : Ms) = m := by cases m; rfl
   simp only [decide_true, Bool.and_self] at hc
   simp only [mputL, hc, e, List.contains_cons, BEq.rfl, Bool.true_or, if_true, List.map_cons]
  ·have hf : (decide (a = m.a) && decide (b = m.b)) = false := by
    by_cases h1 : a = m.a
    ·have h2 : ¬ b = m.b := fun h2 => h ⟨h1, h2⟩
     simp [h2]
    ·simp [h1]
   have hne : ((⟨a, b⟩ : Ms) == m) = false := by
    rw [beq_eq_false_iff_ne]; rintro rfl; exact h ⟨rfl, rfl⟩
   simp only [mputL, hc, hf, ih, Option.map_some]
   rw [List.contains_cons, hne, Bool.false_or]
   by_cases h3 : mm.contains ⟨a, b⟩ = true
   ·rw [if_pos h3, if_pos h3]; rfl
   ·rw [if_neg h3, if_neg h3]; rfl
set_option maxRecDepth 10000 in
theorem lay_c : LayC := by
 intro p gone hm hg
 refine pure_of_pwp_fs mixed rfl ok_plate_lay ?_
 simp only [pc_plate_lay, rs_plate_lay, dv_Piece, List.not_mem_nil, ev_mkMap, allD_m, Option.map_none, one_m, isDead_m, cells_m, aggO_none, cells_agg, isDead_agg, fillC_m, List.length_map, RN, qA, qB, qC, qD, qE, qF]
 refine pwp_range p.ms.length (fun i (mm : List Ms) => ⟨[(4, .ptr 1 0), (5, .ptr 3 0), (13, .d (.slice false (p.ms.map Ms.dv))), (14, .d (.int .i64 p.ms.length)), (15, .d (.int .i64 i))],
  ⟨[some [.d (.int .i64 p.w), .d (.int .i64 p.h), .d (.int .i64 p.pl), .d (.int .i64 p.ga), .d (.int .i64 p.po), .d (.slice false (p.cs.map Pt.dv)), .d (.slice false (p.ws.map Wh.dv)), .d (.slice false (p.ms.map Ms.dv))],
   some [.d (.int .i64 0), .d (.int .i64 0), .d (.int .i64 0), .d (.int .i64 0), .d (.int .i64 0), .d (.slice true []), .d (.slice true []), .d (.slice true []), .d (.map none), .d (.slice true [])],
   some [.mapc (mmDV mm)],
   some [.d (.int .i64 p.w), .d (.int .i64 p.h), .d (.int .i64 p.pl), .d (.int .i64 p.ga), .d (.int .i64 p.po), .d (.slice false (p.cs.map Pt.dv)), .d (.slice false (p.ws.map Wh.dv)), .d (.slice false (p.ms.map Ms.dv)), .mref 2, .d (.slice false (gone.map intDV))]], [0], []⟩⟩)
  (fun i mm => layMM [] p.ms = layMM mm (p.ms.drop i)) 0 [] (Nat.zero_le _) rfl rfl (fun i mm h1 hix => ?_) (fun mm hix => ?_)
 ·obtain ⟨h2, h3, h6⟩ := rng h1 (by omega)
  rw [drop_cons h1, layMM] at hix
  simp only [h2, h3, h1, getD_map, Int.toNat_natCast, List.length_map, dv_Ms, List.not_mem_nil, RN, qA, qB, qC, qD, qE, qF]
  refine ev_mset (l := mmDV mm) rfl (by decide) (by simp [cellsEq]) (mput_mm _ _ mm) ?_
  simp only [h6, RN, qA, qB, qC, qD, qE, qF]
  refine up_take 4 0 _ h1 rfl hix (by simp) (by simp) rfl ?_
  simp [PV.upto]
 ·rw [List.drop_length, layMM] at hix
  simp only [Int.lt_irrefl, List.length_map, List.not_mem_nil, ev_mkMap, allD_m, Option.map_none, one_m, isDead_m, cells_m, aggO_none, cells_agg, isDead_agg, fillC_m, RN, qA, qB, qC, qD, qE, qF]
  refine ⟨_, rfl, ?_⟩
  rw [dv_Laid]
  simp only [Piece.laid, hix, DV.strip, mmDV]
  rfl
end Go.Tel
open Nat renaming reduceBEq → qA, reduceAdd → qB, reduceSub → qC, reduceEqDiff → qD, reduceLT → qE, reduceLeDiff → qF
namespace Go.Am
theorem app_get {α : Type} {l : List α} {x : α} : (l ++ [x])[l.length]? = some x := by simp
theorem app_set {α : Type} {l : List α} {x y : α} : (l ++ [x]).set l.length y = l ++ [y] := by simp
section
variable {C : Ctx} {nb na : Nat} {Q : Ex → St → Prop} {env : List (Nat × PV)} {m : Mem}
theorem loopMem_eq {bs : List (Option (List PV))} {fz : List Nat} {ar : List (Option Arr)} {L : Loop} {st : LoopState} {pd : Option Code} {cells : List PV} {xb : List (Option (List PV))} {xf : List Nat} {xa : List (Option Arr)} :
  loopMem ⟨bs, fz, ar⟩ L st pd cells xb xf xa = ⟨bs ++ some (.loopc { L with state := st, pending := pd } :: cells) :: xb, xf ++ fz, ar ++ xa⟩ := rfl
theorem up_refl {α : Type} {len i : Nat} {E : Nat → α → St} {P : Nat → α → Prop} (a' : α) (hi : i < len) (hs : (⟨env, m⟩ : St) = E (i + 1) a') (hP : P (i + 1) a') :
  ∃ n' s'', n' < len - i ∧ Weak nb na ⟨env, m⟩ s'' ∧ upJ len E P n' s'' := ⟨len - (i + 1), _, by omega, .inl rfl, i + 1, a', by omega, rfl, hs, hP⟩
end
end Go.Am
namespace Go.Tel
open Go.Am
def pairDV (q : Nat × Nat) : List DV := [.int .i64 q.1, .int .i64 q.2]
def pairsB (gone : List Int) (a : Nat) : Nat → Nat → List (Nat × Nat)
 | _, 0 => []
 | b, k + 1 => (if gone.contains (a : Int) || gone.contains (b : Int) then [] else [(a, b)]) ++ pairsB gone a (b + 1) k
def pairsA (n : Nat) (gone : List Int) : Nat → Nat → List (Nat × Nat)
 | _, 0 => []
 | a, k + 1 => pairsB gone a a (n - a) ++ pairsA n gone (a + 1) k
theorem pairsB_eq (gone : List Int) (a : Nat) : ∀ (k b : Nat), pairsB gone a b k = (List.range' b k).filterMap fun (b : Nat) => if gone.contains (a : Int) || gone.contains (b : Int) then none else some (a, b)
 | 0, b => rfl
 | k + 1, b => by
  rw [pairsB, pairsB_eq gone a k (b + 1), List.range'_succ, List.filterMap_cons]
  split <;> rename_i h
  ·rfl
  ·rfl
theorem pairsA_eq (n : Nat) (gone : List Int) : ∀ (k a : Nat), a + k = n → pairsA n gone a k = (List.range' a k).flatMap fun (a : Nat) => ((List.range n).drop a).filterMap fun (b : Nat) => if gone.contains (a : Int) || gone.contains (b : Int) then none else some (a, b)
 | 0, a, _ => rfl
 | k + 1, a, h => by
  rw [pairsA, pairsA_eq n gone k (a + 1) (by omega), List.range'_succ, List.flatMap_cons, pairsB_eq]
  congr 2
  rw [List.range_eq_range', List.drop_range']
  congr 1
  omega
theorem pairs_eq (n : Nat) (gone : List Int) : pairsL n gone = pairsA n gone 0 n := by
 rw [pairsA_eq n gone n 0 (by omega), pairsL, List.range_eq_range']
set_option maxRecDepth 10000 in
set_option maxHeartbeats 1000000 in
theorem pairs_c (l : Laid) (hw : l.p.ws.length ≤ 1000) (hg : l.gone.length ≤ 1000) : Iter C F.plate_laid_pairs [l.dv] ((pairsL l.p.ws.length l.gone).map pairDV) := by
 rintro ⟨bs, fz, ar⟩ b I stop K hb hround h0 hstop hend
 rw [pairs_eq] at hround hend
 simp only at hb hround
 refine sc_of_pwp mixed rfl ok_plate_laid_pairs ?_
 have hgi : ∀ x : Int, Pure C F.slices_Contains_int [.slice false (l.gone.map intDV), .int .i64 x] (.d (.bool (l.gone.contains x))) [] := fun x => containsInt_c l.gone x (by omega)
 have hyb : ∀ (env' : List (Nat × PV)), True := fun _ => trivial
 simp only [pc_plate_laid_pairs, rs_plate_laid_pairs, dv_Laid, app_get, app_set, List.length_map, RN, qA, qB, qC, qD, qE, qF]
 refine pwp_range l.p.ws.length (fun i (_ : Unit) => ⟨[(1, .yref b), (2, .d (.cptr [.int .i64 l.p.w, .int .i64 l.p.h, .int .i64 l.p.pl, .int .i64 l.p.ga, .int .i64 l.p.po, .slice false (l.p.cs.map Pt.dv), .slice false (l.p.ws.map Wh.dv), .slice false (l.p.ms.map Ms.dv), .map (some (l.mm.map fun m => (m.dv, .bool true))), .slice false (l.gone.map intDV)])), (9, .d (.int .i64 l.p.ws.length)), (10, .d (.int .i64 i))], ⟨bs ++ [some [.d (.int .i64 l.p.w), .d (.int .i64 l.p.h), .d (.int .i64 l.p.pl), .d (.int .i64 l.p.ga), .d (.int .i64 l.p.po), .d (.slice false (l.p.cs.map Pt.dv)), .d (.slice false (l.p.ws.map Wh.dv)), .d (.slice false (l.p.ms.map Ms.dv)), .d (.map (some (l.mm.map fun m => (m.dv, .bool true)))), .d (.slice false (l.gone.map intDV))]], bs.length :: fz, ar⟩⟩)
  (fun i _ => ∃ pre, I (pre.map pairDV) ∧ pairsA l.p.ws.length l.gone 0 l.p.ws.length = pre ++ pairsA l.p.ws.length l.gone i (l.p.ws.length - i)) 0 () (Nat.zero_le _) rfl ⟨[], h0, rfl⟩ (fun i _ h1 hix => ?_) (fun _ hix => ?_)
 ·obtain ⟨h2, h3, h6⟩ := rng h1 (by omega)
  obtain ⟨pre, hI, hpre⟩ := hix
  simp only [h2, RN, qA, qB, qC, qD, qE, qF]
  refine pwp_range l.p.ws.length (fun j (_ : Unit) => ⟨[(1, .yref b), (2, .d (.cptr [.int .i64 l.p.w, .int .i64 l.p.h, .int .i64 l.p.pl, .int .i64 l.p.ga, .int .i64 l.p.po, .slice false (l.p.cs.map Pt.dv), .slice false (l.p.ws.map Wh.dv), .slice false (l.p.ms.map Ms.dv), .map (some (l.mm.map fun m => (m.dv, .bool true))), .slice false (l.gone.map intDV)])), (4, .d (.int .i64 i)), (5, .d (.int .i64 j)), (9, .d (.int .i64 l.p.ws.length)), (10, .d (.int .i64 i))], ⟨bs ++ [some [.d (.int .i64 l.p.w), .d (.int .i64 l.p.h), .d (.int .i64 l.p.pl), .d (.int .i64 l.p.ga), .d (.int .i64 l.p.po), .d (.slice false (l.p.cs.map Pt.dv)), .d (.slice false (l.p.ws.map Wh.dv)), .d (.slice false (l.p.ms.map Ms.dv)), .d (.map (some (l.mm.map fun m => (m.dv, .bool true)))), .d (.slice false (l.gone.map intDV))]], bs.length :: fz, ar⟩⟩)
   (fun j _ => i ≤ j ∧ ∃ pre', I (pre'.map pairDV) ∧ pre ++ pairsB l.gone i i (l.p.ws.length - i) = pre' ++ pairsB l.gone i j (l.p.ws.length - j)) i () (by omega) rfl ⟨Nat.le_refl _, pre, hI, rfl⟩ (fun j _ g1 hjx => ?_) (fun _ hjx => ?_)
  ·obtain ⟨g2, g3, g6⟩ := rng g1 (by omega)
   obtain ⟨hij, pre', hI', hpre'⟩ := hjx
   obtain ⟨k, hk⟩ : ∃ k, l.p.ws.length - j = k + 1 := ⟨l.p.ws.length - j - 1, by omega⟩
   have hk' : l.p.ws.length - (j + 1) = k := by omega
   rw [hk, pairsB] at hpre'
   simp only [g2, List.length_map, RN, qA, qB, qC, qD, qE, qF]
   refine call_d rfl rfl (hgi i) ?_
   have skip : (l.gone.contains (i : Int) || l.gone.contains (j : Int)) = true → ∃ pre', I (pre'.map pairDV) ∧ pre ++ pairsB l.gone i i (l.p.ws.length - i) = pre' ++ pairsB l.gone i (j + 1) (l.p.ws.length - (j + 1)) := by
    intro hc
    rw [if_pos hc, List.nil_append] at hpre'
    exact ⟨pre', hI', by rw [hpre', hk']⟩
   cases hA : l.gone.contains (i : Int) with
   | true =>
    simp only [g6, RN, qA, qB, qC, qD, qE, qF]
    exact up_refl () g1 rfl ⟨by omega, skip (by rw [hA]; rfl)⟩
   | false =>
    simp only [RN, qA, qB, qC, qD, qE, qF]
    refine call_d rfl rfl (hgi j) ?_
    cases hB : l.gone.contains (j : Int) with
    | true =>
     simp only [g6, RN, qA, qB, qC, qD, qE, qF]
     exact up_refl () g1 rfl ⟨by omega, skip (by rw [hA, hB]; rfl)⟩
    | false =>
     simp only [RN, qA, qB, qC, qD, qE, qF]
     rw [hA, hB, if_neg (by decide), List.singleton_append] at hpre'
     have hpre2 : pairsA l.p.ws.length l.gone 0 l.p.ws.length = pre' ++ (i, j) :: (pairsB l.gone i (j + 1) k ++ pairsA l.p.ws.length l.gone (i + 1) (l.p.ws.length - (i + 1))) := by
      obtain ⟨q, hq⟩ : ∃ q, l.p.ws.length - i = q + 1 := ⟨l.p.ws.length - i - 1, by omega⟩
      have hq' : l.p.ws.length - (i + 1) = q := by omega
      rw [hq, pairsA, ← List.append_assoc, hpre', List.append_assoc, List.cons_append] at hpre
      rw [hpre, hq']
     have hy := hround (pre'.map pairDV) (pairDV (i, j)) ((pairsB l.gone i (j + 1) k ++ pairsA l.p.ws.length l.gone (i + 1) (l.p.ws.length - (i + 1))).map pairDV) [some [.d (.int .i64 l.p.w), .d (.int .i64 l.p.h), .d (.int .i64 l.p.pl), .d (.int .i64 l.p.ga), .d (.int .i64 l.p.po), .d (.slice false (l.p.cs.map Pt.dv)), .d (.slice false (l.p.ws.map Wh.dv)), .d (.slice false (l.p.ms.map Ms.dv)), .d (.map (some (l.mm.map fun m => (m.dv, .bool true)))), .d (.slice false (l.gone.map intDV))]] [bs.length] []
      (by rw [hpre2, List.map_append, List.map_cons]) hI' (by simp)
     simp only [Mem.ext, List.append_nil, List.singleton_append, pairDV, List.map_cons, List.map_nil] at hy
     refine SY.mono hy fun p M' hp => ?_
     rcases hp with ⟨rfl, rfl, hI2⟩ | ⟨rfl, hst⟩
     ·simp only [g6, RN, qA, qB, qC, qD, qE, qF]
      refine up_refl () g1 rfl ⟨by omega, pre' ++ [(i, j)], by simpa [pairDV] using hI2, ?_⟩
      rw [hpre', hk', List.append_assoc]; rfl
     ·simp only [RN, qA, qB, qC, qD, qE, qF]
      exact hstop _ _ hst
  ·obtain ⟨hij, pre', hI', hpre'⟩ := hjx
   rw [Nat.sub_self, pairsB, List.append_nil] at hpre'
   simp only [Int.lt_irrefl, List.length_map, h6, RN, qA, qB, qC, qD, qE, qF]
   refine up_refl () h1 rfl ⟨pre', hI', ?_⟩
   obtain ⟨q, hq⟩ : ∃ q, l.p.ws.length - i = q + 1 := ⟨l.p.ws.length - i - 1, by omega⟩
   have hq' : l.p.ws.length - (i + 1) = q := by omega
   rw [hq, pairsA, ← List.append_assoc, hpre'] at hpre
   rw [hpre, hq']
 ·obtain ⟨pre, hI, hpre⟩ := hix
  rw [Nat.sub_self, pairsA, List.append_nil] at hpre
  simp only [Int.lt_irrefl, RN, qA, qB, qC, qD, qE, qF]
  have := hend (.d (.tup [])) [some [.d (.int .i64 l.p.w), .d (.int .i64 l.p.h), .d (.int .i64 l.p.pl), .d (.int .i64 l.p.ga), .d (.int .i64 l.p.po), .d (.slice false (l.p.cs.map Pt.dv)), .d (.slice false (l.p.ws.map Wh.dv)), .d (.slice false (l.p.ms.map Ms.dv)), .d (.map (some (l.mm.map fun m => (m.dv, .bool true)))), .d (.slice false (l.gone.map intDV))]] [bs.length] [] (by simp) (by rw [hpre]; exact hI)
  simpa [Mem.ext] using this
theorem pairDV_inj {q q' : Nat × Nat} (h : pairDV q = pairDV q') : q = q' := by
 simp only [pairDV, List.cons.injEq, DV.int.injEq, true_and, and_true, Int.natCast_inj] at h
 exact Prod.ext h.1 h.2
theorem pairs_lt {n : Nat} {gone : List Int} {q : Nat × Nat} (h : q ∈ pairsL n gone) : q.1 < n ∧ q.2 < n := by
 simp only [pairsL, List.mem_flatMap, List.mem_filterMap, List.mem_range] at h
 obtain ⟨a, ha, b, hb, h⟩ := h
 have hb' := List.mem_range.1 (List.mem_of_mem_drop hb)
 split at h
 ·cases h
 ·cases h; exact ⟨ha, hb'⟩
theorem find_app {α β : Type} {f : α → Option β} {l r : List α} {x : α} (h : ∀ y ∈ l, f y = none) : (l ++ x :: r).findSome? f = (match f x with | some y => some y | none => r.findSome? f) := by
 induction l with
 | nil => rfl
 | cons a l ih =>
  rw [List.cons_append, List.findSome?_cons, h a (by simp)]
  exact ih fun y hy => h y (by simp [hy])
set_option maxRecDepth 10000 in
set_option maxHeartbeats 1000000 in
theorem fault_c : FaultC := by
 intro l hf hgood hg
 refine pure_of_pwp_d mixed rfl ok_plate_laid_fault ?_
 have hlw := hgood.lw
 simp only [pc_plate_laid_fault, rs_plate_laid_fault, dv_Laid, List.not_mem_nil, RN, qA, qB, qC, qD, qE, qF]
 have hit := pairs_c l (by omega) hg
 rw [dv_Laid] at hit
 refine pwp_iter hit rfl (by kernel_rfl) (by simp) (fun x hx => by obtain ⟨q, _, rfl⟩ := List.mem_map.1 hx; rfl) (fun pre => ∀ q ∈ pre, ∀ a b : Nat, q = pairDV (a, b) → l.p.wrong l.gone a b = 0) (by simp) (fun L pre x post xb xf xa hx hI hxf => ?_) (fun hI L xb xf xa hxf => ?_)
 ·generalize (List.range L.tmps.size).map _ = cells
  obtain ⟨q, hq, rfl⟩ : ∃ q, q ∈ pairsL l.p.ws.length l.gone ∧ pairDV q = x := by
   have : x ∈ (pairsL l.p.ws.length l.gone).map pairDV := by rw [hx]; simp
   simpa using this
  obtain ⟨a, b⟩ := q
  obtain ⟨ha, hb⟩ := pairs_lt hq
  simp only at ha hb hxf
  have h1 : 1 ∉ xf := fun h => by have := hxf 1 h; simp at this
  have h2 : 2 ∉ xf := fun h => by have := hxf 2 h; simp at this
  have h3 : 3 ∉ xf := fun h => by have := hxf 3 h; simp at this
  simp only [loopMem_eq, pairDV, List.zip_cons_cons, List.zip_nil_left, RN, qA, qB, qC, qD, qE, qF]
  have hwr : Pure C F.plate_laid_wrong [l.dv, .int .i64 (a : Int), .int .i64 (b : Int)] (.d (.int .i64 (l.p.wrong l.gone a b))) [] := laid_wrong_c l hgood hf (by omega) a b ⟨by omega, by omega⟩ ⟨by omega, by omega⟩
  rw [dv_Laid] at hwr
  refine call_d rfl rfl hwr ?_
  by_cases hz : l.p.wrong l.gone a b = 0
  ·have hz' : (l.p.wrong l.gone a b != 0) = false := by rw [hz]; rfl
   simp only [hz', roundE, RN, qA, qB, qC, qD, qE, qF]
   refine fun q hq a' b' he => ?_
   rcases List.mem_append.1 hq with hq | hq
   ·exact hI q hq a' b' he
   ·simp only [List.mem_singleton] at hq
    rw [hq] at he
    have := pairDV_inj (q := (a, b)) (q' := (a', b')) he
    cases this
    exact hz
  ·have hz' : (l.p.wrong l.gone a b != 0) = true := by rw [bne_iff_ne]; exact hz
   simp only [hz', roundE, List.mem_append, h1, h2, h3, List.set_cons_zero, or_self, false_or, RN, qA, qB, qC, qD, qE, qF]
   refine ⟨cells, rfl, ?_⟩
   simp only [dv_Flt, RN, qA, qB, qC, qD, qE, qF]
   obtain ⟨p1, p2, e1, e2, e3⟩ := List.map_eq_append_iff.1 hx
   obtain ⟨y, p3, e4, e5, e6⟩ := List.map_eq_cons_iff.1 e3
   have := pairDV_inj e5
   subst this e4
   have hfa : l.p.fault l.gone = some ⟨a, b, l.p.wrong l.gone a b⟩ := by
    rw [Piece.fault, e1, find_app fun q hq => by
     rw [if_pos (hI (pairDV q) (by rw [← e2]; exact List.mem_map_of_mem hq) q.1 q.2 rfl)]]
    simp only [if_neg hz]
   rw [hfa]
   rfl
 ·simp only [loopMem_eq, pairDV, List.mem_append, List.mem_singleton, RN, qA, qB, qC, qD, qE, qF]
  have h1 : 1 ∉ xf := fun h => by have := hxf 1 h; simp at this
  have h2 : 2 ∉ xf := fun h => by have := hxf 2 h; simp at this
  simp only [h1, h2, dv_Flt, RN, qA, qB, qC, qD, qE, qF]
  have hfa : l.p.fault l.gone = none := by
   rw [Piece.fault, List.findSome?_eq_none_iff]
   intro q hq
   rw [if_pos (hI (pairDV q) (List.mem_map_of_mem hq) q.1 q.2 rfl)]
  rw [hfa]
  rfl
end Go.Tel
open Nat renaming reduceBEq → qA, reduceAdd → qB, reduceSub → qC, reduceEqDiff → qD, reduceLT → qE, reduceLeDiff → qF
namespace Go.Tel
open Go.Am
theorem mssOk_mem {n : Int} : ∀ {ms pre : List Ms}, mssOk n pre ms = true → ∀ m ∈ ms, (0 ≤ m.a ∧ m.a < n) ∧ 0 ≤ m.b ∧ m.b < n
 | [], _, _, m, hm => by simp at hm
 | m' :: ms, pre, h, m, hm => by
  simp only [mssOk, Bool.and_eq_true, inR, decide_eq_true_eq] at h
  rcases List.mem_cons.1 hm with rfl | hm
  ·obtain ⟨⟨⟨⟨⟨h1, h2⟩, h3, h4⟩, _⟩, _⟩, _⟩ := h
   omega
  ·exact mssOk_mem h.2 m hm
theorem Piece.ok_ms {p : Piece} (h : p.ok = true) : ∀ m ∈ p.ms, p.isW m.a ∧ p.isW m.b := by
 intro m hm
 simp only [Piece.ok, Bool.and_eq_true] at h
 have := mssOk_mem h.1.2 m hm
 exact ⟨⟨by omega, by omega⟩, by omega, by omega⟩
def Piece.stiffAt (p : Piece) (a b : Nat) : Bool := ((a : Int) != b) && (p.groups.getD a default == p.groups.getD b default) && p.clash a b
def Piece.stiff (p : Piece) : Bool := (pairsL p.ws.length []).any fun q => p.stiffAt q.1 q.2
def Piece.layers (p : Piece) : Option (List Int) × Int :=
 if p.ok then
  if p.stiff then (none, 7)
  else match (List.range 6).findSome? fun most => layS p p.groups most p.ws.length [] with
   | some l => (some l, 0)
   | none => (none, 5)
 else (none, 2)
theorem grpN_len (ms : List Ms) : ∀ (n : Nat) (G : List Int), (grpN ms n G).length = G.length
 | 0, _ => rfl
 | n + 1, G => by rw [grpN, grpN_len ms n, grpM_len]
theorem groups_len (p : Piece) : p.groups.length = p.ws.length := by rw [Piece.groups, grpN_len, upTo_len]
theorem laid_p {p : Piece} {g : List Int} : (p.laid g).p = p := rfl
theorem laid_g {p : Piece} {g : List Int} : (p.laid g).gone = g := rfl
theorem findSome_app {α β : Type} {f : α → Option β} {l r : List α} (h : ∀ y ∈ l, f y = none) : (l ++ r).findSome? f = r.findSome? f := by
 induction l with
 | nil => rfl
 | cons a l ih => rw [List.cons_append, List.findSome?_cons, h a (by simp)]; exact ih fun y hy => h y (by simp [hy])
set_option maxRecDepth 10000 in
set_option maxHeartbeats 1000000 in
theorem Layers_c (p : Piece) (hc : p.cs.length ≤ 1000) (hw : p.ws.length ≤ 1000) (hm : p.ms.length ≤ 1000) : Pure C F.plate_Layers [p.dv] (.d (.tup [bestD p.layers.1, .int .i64 p.layers.2])) [] := by
 refine pure_of_pwp_d mixed rfl ok_plate_Layers ?_
 have hp := isPiece_c p hc hw hm
 have hl := lay_c p [] hm (by simp)
 simp only [dv_Piece] at hp hl
 simp only [pc_plate_Layers, rs_plate_Layers, dv_Piece, List.not_mem_nil, RN, qA, qB, qC, qD, qE, qF]
 refine call_d rfl rfl hp ?_
 cases hok : p.ok
 ·simp only [List.not_mem_nil, RN, qA, qB, qC, qD, qE, qF]
  rw [Piece.layers, if_neg (by rw [hok]; decide)]
  rfl
 ·have hgood := Piece.ok_good hok
  have hlw := (Piece.ok_lens hok).2.1
  have hfine := Piece.laid_fine p []
  have hgr : Pure C F.plate_laid_groups [(p.laid []).dv] (.d (.slice false (p.groups.map intDV))) [] := groups_c (p.laid []) hw hm (Piece.ok_ms hok)
  have hG := groups_len p
  simp only [RN, qA, qB, qC, qD, qE, qF]
  refine call_d rfl rfl hl ?_
  simp only [dv_Laid, RN, qA, qB, qC, qD, qE, qF]
  refine call_d rfl (by rw [dv_Laid]; rfl) hgr ?_
  simp only [dv_Laid, laid_p, laid_g, RN, qA, qB, qC, qD, qE, qF]
  have hit := pairs_c (p.laid []) hw (by simp [Piece.laid])
  simp only [dv_Laid, laid_p, laid_g] at hit
  refine pwp_iter hit rfl (by kernel_rfl) (by simp) (fun x hx => by obtain ⟨q, _, rfl⟩ := List.mem_map.1 hx; rfl) (fun pre => ∀ q ∈ pre, ∀ a b : Nat, q = pairDV (a, b) → p.stiffAt a b = false) (by simp) (fun L pre x post xb xf xa hx hI hxf => ?_) (fun hI L xb xf xa hxf => ?_)
  ·generalize (List.range L.tmps.size).map _ = cells
   obtain ⟨q, hq, rfl⟩ : ∃ q, q ∈ pairsL p.ws.length [] ∧ pairDV q = x := by
    have : x ∈ (pairsL p.ws.length []).map pairDV := by
     rw [hx]; simp
    simpa using this
   obtain ⟨a, b⟩ := q
   obtain ⟨ha, hb⟩ := pairs_lt hq
   simp only at ha hb hxf
   have h1 : 1 ∉ xf := fun h => by have := hxf 1 h; simp at this
   have h2 : 2 ∉ xf := fun h => by have := hxf 2 h; simp at this
   have h5 : 5 ∉ xf := fun h => by have := hxf 5 h; simp at this
   have hcl : Pure C F.plate_laid_clash [(p.laid []).dv, .int .i64 (a : Int), .int .i64 (b : Int)] (.d (.bool (p.clash a b))) [] := laid_clash_c (p.laid []) hgood hfine a b ⟨by omega, by show _ < p.ws.length; omega⟩ ⟨by omega, by show _ < p.ws.length; omega⟩
   simp only [dv_Laid, laid_p, laid_g] at hcl
   have ha' : a < p.groups.length := by omega
   have hb' : b < p.groups.length := by omega
   have done : ∀ (t : Bool), p.stiffAt a b = t → t = false → ∀ q ∈ pre ++ [pairDV (a, b)], ∀ a' b' : Nat, q = pairDV (a', b') → p.stiffAt a' b' = false := by
    intro t ht hf q hq a' b' he
    rcases List.mem_append.1 hq with hq | hq
    ·exact hI q hq a' b' he
    ·simp only [List.mem_singleton] at hq
     rw [hq] at he
     have := pairDV_inj he
     cases this
     rw [ht, hf]
   have hdone : p.stiffAt a b = false → ∀ q ∈ pre ++ [[DV.int .i64 (a : Int), DV.int .i64 (b : Int)]], ∀ a' b' : Nat, q = [DV.int .i64 (a' : Int), DV.int .i64 (b' : Int)] → p.stiffAt a' b' = false := fun h => done _ h rfl
   have hna : ∀ i, i < p.ws.length → (0 : Int) ≤ (i : Int) := fun i _ => by omega
   cases hne : ((a : Int) != (b : Int)) with
   | false =>
    simp only [loopMem_eq, pairDV, List.zip_cons_cons, List.zip_nil_left, hne, roundE, RN, qA, qB, qC, qD, qE, qF]
    exact hdone (by rw [Piece.stiffAt, hne]; rfl)
   | true =>
    have ga : (0 : Int) ≤ (a : Int) := by omega
    have gb : (0 : Int) ≤ (b : Int) := by omega
    cases heq : (p.groups.getD a default == p.groups.getD b default) with
    | false =>
     simp only [loopMem_eq, pairDV, List.zip_cons_cons, List.zip_nil_left, hne, getD_mapI, ha', hb', ga, gb, Int.toNat_natCast, List.length_map, heq, roundE, RN, qA, qB, qC, qD, qE, qF]
     exact hdone (by rw [Piece.stiffAt, hne, heq]; rfl)
    | true =>
     simp only [loopMem_eq, pairDV, List.zip_cons_cons, List.zip_nil_left, hne, getD_mapI, ha', hb', ga, gb, Int.toNat_natCast, List.length_map, heq, roundE, RN, qA, qB, qC, qD, qE, qF]
     refine call_d rfl rfl hcl ?_
     cases hC : p.clash a b with
     | false =>
      simp only [roundE, RN, qA, qB, qC, qD, qE, qF]
      exact hdone (by rw [Piece.stiffAt, hne, heq, hC]; rfl)
     | true =>
      simp only [roundE, List.mem_append, h1, h2, h5, or_self, false_or, RN, qA, qB, qC, qD, qE, qF]
      refine ⟨cells, rfl, ?_⟩
      have hst : p.stiff = true := by
       rw [Piece.stiff, List.any_eq_true]
       exact ⟨(a, b), hq, by simp only [Piece.stiffAt, hne, heq, hC, Bool.and_self]⟩
      rw [Piece.layers, if_pos hok, if_pos hst]
      rfl
  ·generalize (List.range L.tmps.size).map _ = cells
   simp only [loopMem_eq, pairDV, List.mem_append, List.mem_singleton, RN, qA, qB, qC, qD, qE, qF]
   have h1 : 1 ∉ xf := fun h => by have := hxf 1 h; simp at this
   have h2 : 2 ∉ xf := fun h => by have := hxf 2 h; simp at this
   have hst : p.stiff = false := by
    rw [Piece.stiff, List.any_eq_false]
    intro q hq
    rw [hI (pairDV q) (List.mem_map_of_mem hq) q.1 q.2 rfl]
    simp
   refine pwp_range 6 (fun i (_ : Unit) => ⟨[(2, .ptr 1 0), (3, .ptr 2 0), (4, .d (.cptr [.int .i64 p.w, .int .i64 p.h, .int .i64 p.pl, .int .i64 p.ga, .int .i64 p.po, .slice false (p.cs.map Pt.dv), .slice false (p.ws.map Wh.dv), .slice false (p.ms.map Ms.dv), .map (some ((p.laid []).mm.map fun m => (m.dv, .bool true))), .slice false []])), (5, .d (.cptr [.slice false (p.groups.map intDV)])), (42, .d (.int .i64 i))],
    ⟨some [.d (.int .i64 p.w), .d (.int .i64 p.h), .d (.int .i64 p.pl), .d (.int .i64 p.ga), .d (.int .i64 p.po), .d (.slice false (p.cs.map Pt.dv)), .d (.slice false (p.ws.map Wh.dv)), .d (.slice false (p.ms.map Ms.dv))] :: some [.d (.slice true [])] :: some [.d (.int .i64 0)] ::
     some ([.int .i64 p.w, .int .i64 p.h, .int .i64 p.pl, .int .i64 p.ga, .int .i64 p.po, .slice false (p.cs.map Pt.dv), .slice false (p.ws.map Wh.dv), .slice false (p.ms.map Ms.dv), .map (some ((p.laid []).mm.map fun m => (m.dv, .bool true))), .slice false []].map .d) :: some [.d (.slice false (p.groups.map intDV))] :: some (.loopc { L with state := .exhausted, pending := none } :: cells) :: xb, xf ++ [4, 3, 0], xa⟩⟩)
    (fun i _ => (List.range 6).findSome? (fun most => layS p p.groups most p.ws.length []) = (List.range' i (6 - i)).findSome? (fun most => layS p p.groups most p.ws.length [])) 0 () (by omega) rfl (by rw [List.range_eq_range']) (fun i _ g1 hix => ?_) (fun _ hix => ?_)
   ·have hla : Pure C F.plate_laid_laying [(p.laid []).dv, .slice false (p.groups.map intDV), .int .i64 (i : Int)] (.d (.tup [bestD (layS p p.groups i p.ws.length []), .bool (layS p p.groups i p.ws.length []).isSome])) [] := laying_c (p.laid []) hfine hgood p.groups i (by omega) hG
    simp only [dv_Laid, laid_p, laid_g, List.map_nil] at hla
    have g2 : (i : Int) < 6 := by omega
    have g6 : IntKind.i64.wrap ((i : Int) + 1) = ((i + 1 : Nat) : Int) := by rw [w64_in (by omega)]; omega
    obtain ⟨k, hk⟩ : ∃ k, 6 - i = k + 1 := ⟨6 - i - 1, by omega⟩
    have hk' : 6 - (i + 1) = k := by omega
    rw [hk, List.range'_succ, List.findSome?_cons] at hix
    simp only [g2, RN, qA, qB, qC, qD, qE, qF]
    refine call_d rfl rfl hla ?_
    cases hL : layS p p.groups i p.ws.length [] with
    | none =>
     rw [hL] at hix
     simp only [Option.isSome_none, bestD_n, g6, RN, qA, qB, qC, qD, qE, qF]
     exact up_refl () g1 rfl (by rw [hix, hk'])
    | some x =>
     rw [hL] at hix
     simp only [Option.isSome_some, bestD_s, List.mem_append, h1, h2, or_self, false_or, RN, qA, qB, qC, qD, qE, qF]
     rw [Piece.layers, if_pos hok, hst, hix]
     rfl
   ·have g2 : ¬ (((6 : Nat) : Int) < 6) := by omega
    simp only [g2, List.mem_append, h1, h2, or_self, false_or, RN, qA, qB, qC, qD, qE, qF]
    rw [Piece.layers, if_pos hok, hst, hix]
    rfl
end Go.Tel
