/-
  Part 21 of the proof of a law of plates: an abstract machine over the model, contracts of functions, plain laws.
  Conditions: none.
-/
import Derived.Test.YticjmjdcggomgaaGreatDoorM20
set_option linter.all false
open Nat renaming reduceBEq → qA, reduceAdd → qB, reduceSub → qC, reduceEqDiff → qD, reduceLT → qE, reduceLeDiff → qF
namespace Go.Tel
open Go.Am
def dvL (l : List Int) : DV := .slice false (l.map intDV)
theorem dv_L {l : List Int} : dvL l = .slice false (l.map intDV) := by rw [dvL]
def someR (s : List Int → Bool) (below : Int) : Nat → List Int → List (List Int)
 | 0, _ => []
 | k + 1, now => ((if s (now ++ [below - (k + 1 : Nat)]) then [now ++ [below - (k + 1 : Nat)]] else []) ++ someR s below k (now ++ [below - (k + 1 : Nat)])) ++ someR s below k now
def someS (s : List Int → Bool) (below : Int) (k : Nat) (now : List Int) : List (List Int) := (if s now then [now] else []) ++ someR s below k now
theorem someR_succ (s : List Int → Bool) (below : Int) (k : Nat) (now : List Int) : someR s below (k + 1) now = someS s below k (now ++ [below - (k + 1 : Nat)]) ++ someR s below k now := rfl
theorem someR_len (s : List Int → Bool) (below : Int) : ∀ (k : Nat) (now : List Int), (someR s below k now).length + 1 ≤ 2 ^ k
 | 0, now => by simp [someR]
 | k + 1, now => by
  have h1 := someR_len s below k (now ++ [below - (k + 1 : Nat)])
  have h2 := someR_len s below k now
  rw [someR_succ, someS, List.length_append, List.length_append, Nat.pow_succ]
  have : (if s (now ++ [below - (k + 1 : Nat)]) then [now ++ [below - (k + 1 : Nat)]] else []).length ≤ 1 := by split <;> simp
  omega
theorem someS_len (s : List Int → Bool) (below : Int) (k : Nat) (now : List Int) : (someS s below k now).length ≤ 2 ^ k := by
 have h2 := someR_len s below k now
 rw [someS, List.length_append]
 have : (if s now then [now] else []).length ≤ 1 := by split <;> simp
 omega
def OutIs (o : PV) (ar : List (Option Arr)) (acc : List (List Int)) : Prop :=
 (o = .d (.slice true []) ∧ acc = []) ∨ ∃ k ver, o = .tsl k ver 0 ∧ ar[k]? = some (some ⟨1, acc.map dvL, ver, 0⟩)
theorem OutIs.upto {o : PV} {ar : List (Option Arr)} {acc : List (List Int)} (h : OutIs o ar acc) (n : Nat) : o.upto n ar.length = true := by
 rcases h with ⟨rfl, _⟩ | ⟨k, ver, rfl, h⟩
 ·rfl
 ·simpa [PV.upto] using (List.getElem?_eq_some_iff.1 h).1
theorem OutIs.one {o : PV} {ar : List (Option Arr)} {acc : List (List Int)} (h : OutIs o ar acc) : o.cells = [o] ∧ o.one = true := by
 rcases h with ⟨rfl, _⟩ | ⟨k, ver, rfl, _⟩ <;> exact ⟨rfl, rfl⟩
theorem OutIs.more {o : PV} {ar : List (Option Arr)} {acc : List (List Int)} (h : OutIs o ar acc) (x : List (Option Arr)) : OutIs o (ar ++ x) acc := by
 rcases h with h | ⟨k, ver, rfl, h⟩
 ·exact .inl h
 ·exact .inr ⟨k, ver, rfl, by rw [List.getElem?_append_left (List.getElem?_eq_some_iff.1 h).1]; exact h⟩
theorem OutIs.set {o : PV} {ar : List (Option Arr)} {acc : List (List Int)} (h : OutIs o ar acc) {x y : Option Arr} : OutIs o ((ar ++ [x]).set ar.length y) acc := by
 have := h.more [y]
 simpa using this
theorem dvl_fit (l : List (List Int)) : ∀ y ∈ l.map dvL, y.fits 1 = true := by
 intro y hy; obtain ⟨n, _, rfl⟩ := List.mem_map.1 hy; rfl
theorem ev_callF {C : Ctx} {base : Nat} {M : Mem} {K : PV → Mem → Prop} {KP : DV → Mem → Prop} {f : FuncId} {fs cs args : List PV} (hc : callable C.P f = true) (h : SC C f (fs ++ args ++ cs) M K KP) : runOp C base .callV (.func (.func f) fs cs :: args) M K KP := ⟨hc, h⟩
theorem app_out {bs : List (Option (List PV))} {fz : List Nat} {ar : List (Option Arr)} {o : PV} {acc : List (List Int)} {K : PV → Mem → Prop} {now : List Int} {ex : Bool} (h : OutIs o ar acc) (hl : acc.length ≤ 1000000)
  (hK : ∀ o' ar', ar.length ≤ ar'.length → OutIs o' ar' (acc ++ [now]) → K o' ⟨bs, fz, ar'⟩) : runApp 1 false o (.d (.slice ex [dvL now])) ⟨bs, fz, ar⟩ K := by
 have hf : ∀ y ∈ [dvL now], y.fits 1 = true := by intro y hy; simp only [List.mem_singleton] at hy; subst hy; rfl
 rcases h with ⟨rfl, rfl⟩ | ⟨k, ver, rfl, h⟩
 ·rw [app_dd]
  refine ⟨by decide, hf, fun hh => (by cases hh), (by simp), (by simp), hK _ _ (by simp) (.inr ⟨ar.length, 0, rfl, by simp⟩)⟩
 ·rw [app_td, h, appRow_s]
  refine ⟨by decide, hf, fun hh => (by cases hh), rfl, rfl, by decide, by simp; omega, hK _ _ (by simp) (.inr ⟨k, ver + 1, rfl, ?_⟩)⟩
  have hk := (List.getElem?_eq_some_iff.1 h).1
  simp [hk]
def someLoop : PCode := (.loop (.seq (.seq (.region false [ ⟨some 17, .mov, [.t 8], none, 0⟩, ⟨some 18, .load false 1, [.t 4], none, 0⟩, ⟨some 19, .bin .lss, [.t 17, .t 18], none, 0⟩] 0 [0, 4, 5, 8, 19] []) (.cond (.t 19) .skip (.exit 0))) (.seq (.block 1 (.region true [ ⟨some 22, .load false 1, [.t 5], none, 2⟩, ⟨some 23, .mov, [.t 0], none, 0⟩, ⟨some 24, .pcall F.slices_Clone_int, [.t 23], none, 1⟩, ⟨some 25, .mov, [.t 8], none, 0⟩, ⟨some 26, .mkSl 1 [.int .i64 0] [0], [.t 25], none, 1⟩, ⟨some 27, .appF 1, [.t 24, .t 26], none, 0⟩, ⟨some 28, .mov, [.t 8], none, 0⟩, ⟨some 29, .bin .add, [.t 28, .c (.int .i64 1)], none, 0⟩, ⟨some 30, .callV, [.t 22, .t 27, .t 29], none, 0⟩] 0 [0, 4, 5, 8] [])) (.region false [ ⟨some 20, .mov, [.t 8], none, 0⟩, ⟨some 21, .bin .add, [.t 20, .c (.int .i64 1)], none, 0⟩, ⟨some 8, .mov, [.t 21], none, 0⟩] 0 [0, 4, 5, 8] []))))
section
variable {fn : FuncId} {caps : List DV} {s : List Int → Bool} {below : Int}
set_option maxRecDepth 10000 in
set_option maxHeartbeats 1000000 in
theorem some_1_sc (hc : callable C.P fn = true) (hp : ∀ l : List Int, l.length ≤ 100 → (∀ x ∈ l, 0 ≤ x ∧ x < below) → Pure C fn ([dvL l] ++ caps.map DV.strip) (.d (.bool (s l))) []) (x0 x1 : Option (List PV)) (fz : List Nat) (h2f : 2 ∉ fz) (hfz : ∀ b ∈ fz, b < 4) (hx : ∀ n, ((x0.getD []).all fun p => p.upto 4 n) = true ∧ ((x1.getD []).all fun p => p.upto 4 n) = true) :
  ∀ (k : Nat) (now : List Int) (fr : Int) (acc : List (List Int)) (o : PV) (ar : List (Option Arr)) (K : PV → Mem → Prop) (KP : DV → Mem → Prop), below - fr = k → 0 ≤ fr → below ≤ 50 → now.length + k ≤ 100 → (∀ x ∈ now, 0 ≤ x ∧ x < below) → acc.length + 2 ^ k ≤ 1000000 → OutIs o ar acc →
   (∀ o' ar', ar.length ≤ ar'.length → OutIs o' ar' (acc ++ someS s below k now) → K (.d (.tup [])) ⟨[x0, x1, some [o'], some [.func (.func F.plate_some_1) [] [.d (.cptr [.func (.func fn) [] caps]), .ptr 2 0, .d (.cptr [.int .i64 below]), .ptr 3 0]]], fz, ar'⟩) →
   SC C F.plate_some_1 [.d (dvL now), .d (.int .i64 fr), .d (.cptr [.func (.func fn) [] caps]), .ptr 2 0, .d (.cptr [.int .i64 below]), .ptr 3 0] ⟨[x0, x1, some [o], some [.func (.func F.plate_some_1) [] [.d (.cptr [.func (.func fn) [] caps]), .ptr 2 0, .d (.cptr [.int .i64 below]), .ptr 3 0]]], fz, ar⟩ K KP := by
 intro k
 induction k using Nat.strongRecOn with
 | ind k ih =>
  intro now fr acc o ar K KP hk h0 hb hn hr ha ho hK
  have hpow : 1 ≤ 2 ^ k := Nat.one_le_two_pow
  refine sc_of_pwp mixed rfl ok_plate_some_1 ?_
  simp only [pc_plate_some_1, rs_plate_some_1, dv_L, RN, qA, qB, qC, qD, qE, qF]
  refine callV_d rfl hc (by simp only [List.nil_append, List.map_append, List.map_cons, List.map_nil, DV.strip]; rfl) (hp now (by omega) hr) ?_
  have loop : ∀ (Q : Ex → St → Prop) o1 ar1 acc1, ar.length ≤ ar1.length → OutIs o1 ar1 acc1 → acc1 ++ someR s below k now = acc ++ someS s below k now → acc1.length + 2 ^ k ≤ 1000001 →
    (∀ env o' ar', ar.length ≤ ar'.length → OutIs o' ar' (acc ++ someS s below k now) → Q (.exit 0) ⟨env, ⟨[x0, x1, some [o'], some [.func (.func F.plate_some_1) [] [.d (.cptr [.func (.func fn) [] caps]), .ptr 2 0, .d (.cptr [.int .i64 below]), .ptr 3 0]]], fz, ar'⟩⟩) →
    pwp C 4 ar.length someLoop Q
     ⟨[(0, .d (.slice false (now.map intDV))), (4, .d (.cptr [.int .i64 below])), (5, .ptr 3 0), (8, .d (.int .i64 fr))], ⟨[x0, x1, some [o1], some [.func (.func F.plate_some_1) [] [.d (.cptr [.func (.func fn) [] caps]), .ptr 2 0, .d (.cptr [.int .i64 below]), .ptr 3 0]]], fz, ar1⟩⟩ := by
   intro Q o1 ar1 acc1 hl1 ho1 hs1 ha1 hQ
   rw [someLoop]
   refine pwp_while (fun (a : Nat × PV × List (Option Arr) × List (List Int)) => ⟨[(0, .d (.slice false (now.map intDV))), (4, .d (.cptr [.int .i64 below])), (5, .ptr 3 0), (8, .d (.int .i64 (below - a.1)))], ⟨[x0, x1, some [a.2.1], some [.func (.func F.plate_some_1) [] [.d (.cptr [.func (.func fn) [] caps]), .ptr 2 0, .d (.cptr [.int .i64 below]), .ptr 3 0]]], fz, a.2.2.1⟩⟩)
    (fun a => a.1 ≤ k ∧ ar.length ≤ a.2.2.1.length ∧ OutIs a.2.1 a.2.2.1 a.2.2.2 ∧ a.2.2.2 ++ someR s below a.1 now = acc ++ someS s below k now ∧ a.2.2.2.length + 2 ^ a.1 ≤ 1000001) (fun a => a.1) (k, o1, ar1, acc1) (by simp only [show below - (k : Int) = fr by omega]) ⟨Nat.le_refl _, hl1, ho1, hs1, ha1⟩ ?_
   rintro ⟨m, o2, ar2, acc2⟩ ⟨hm, hl2, ho2, hs2, ha2⟩
   simp only at hm hl2 ho2 hs2 ha2 ⊢
   match m, hm, hs2, ha2 with
   | 0, hm, hs2, ha2 =>
    have hlt : ¬ (below - ((0 : Nat) : Int) < below) := by omega
    simp only [hlt, RN, qA, qB, qC, qD, qE, qF]
    exact hQ _ _ _ hl2 (by rw [← hs2]; simpa [someR] using ho2)
   | m + 1, hm, hs2, ha2 =>
    have hlt : below - ((m + 1 : Nat) : Int) < below := by omega
    have hw : IntKind.i64.wrap (below - ((m + 1 : Nat) : Int) + 1) = below - (m : Int) := by rw [w64_in (by omega)]; omega
    have hp2 : 2 ^ (m + 1) = 2 ^ m + 2 ^ m := by rw [Nat.pow_succ]; omega
    have hpm : 1 ≤ 2 ^ m := Nat.one_le_two_pow
    simp only [hlt, hw, RN, qA, qB, qC, qD, qE, qF]
    refine call_r rfl rfl (cloneInt_c _ (ints_fit now) (by simp; omega)) (by simp) ?_
    have hfz' : fz.filter (fun b => decide (b < 4)) = fz := List.filter_eq_self.2 fun b hb => by simpa using hfz b hb
    have hS : someS s below m (now ++ [below - ((m + 1 : Nat) : Int)]) ++ someR s below m now = someR s below (m + 1) now := (someR_succ ..).symm
    have hSl := someS_len s below m (now ++ [below - ((m + 1 : Nat) : Int)])
    refine ⟨rfl, ev_appF (k := ar2.length) (sz := 1) (xs := now.map intDV) (ver := 0) (st := 0) (skip := 0) (by simp [PV.shift]) (by decide) (by decide) (by simp [DV.strip, DV.fits, DV.cells, DV.one]) (by simp; omega) ?_⟩
    refine ev_callF (args := [_, _]) (by kernel_rfl) (cs := [_, _, _, _]) ?_
    have e1 : (.d (.slice false ((now.map intDV).drop 0 ++ [(DV.int IntKind.i64 (below - ((m + 1 : Nat) : Int))).strip])) : PV) = .d (dvL (now ++ [below - ((m + 1 : Nat) : Int)])) := by simp [dvL, intDV, DV.strip]
    simp only [e1, List.nil_append, List.cons_append]
    refine ih m (by omega) _ _ acc2 o2 _ _ _ (by omega) (by omega) hb (by simp; omega) (fun x hx => ?_) (by omega) ?_ fun o' ar' h1 h2 => ?_
    ·rcases List.mem_append.1 hx with hx | hx
     ·exact hr x hx
     ·simp only [List.mem_singleton] at hx; omega
    ·exact ho2.set
    ·obtain ⟨hx0, hx1⟩ := hx ar'.length
     have h1' : ar2.length + 1 ≤ ar'.length := by simpa using h1
     refine ⟨m, _, Nat.lt_succ_self m, Weak.same (Nat.le_refl _) (by simp only; omega) ?_ ?_, (m, o', ar', acc2 ++ someS s below m (now ++ [below - ((m + 1 : Nat) : Int)])), rfl, ?_, ⟨by omega, by simp only; omega, h2, by rw [List.append_assoc, hS, hs2], by simp only [List.length_append]; omega⟩⟩
     ·simp [PV.upto, DV.strip]
     ·have h5 : o'.upto 4 ar'.length = true := h2.upto 4
      have h6 : (List.all [some [o'], some [PV.func (.func F.plate_some_1) [] [.d (.cptr [.func (.func fn) [] caps]), .ptr 2 0, .d (.cptr [.int .i64 below]), .ptr 3 0]]] fun c => (c.getD []).all fun p => p.upto 4 ar'.length) = true := by simp [h5, PV.upto, uptoL]
      show (List.all (x0 :: x1 :: _) fun c => (c.getD []).all fun p => p.upto 4 ar'.length) = true
      rw [List.all_cons, List.all_cons, hx0, hx1]; exact h6
     ·simp [hfz']
  cases hs : s now
  ·simp only [RN, qA, qB, qC, qD, qE, qF]
   refine loop _ o ar acc (Nat.le_refl _) ho (by rw [someS, hs]; simp) (by omega) (fun env o' ar' h1 h2 => ?_)
   simp only [RN, qA, qB, qC, qD, qE, qF]
   exact hK o' ar' h1 h2
  ·simp only [RN, qA, qB, qC, qD, qE, qF]
   refine ⟨rfl, app_out ho (by omega) fun o' ar' h1 h2 => ?_⟩
   obtain ⟨hc1, hc2⟩ := h2.one
   simp only [hc1, hc2, h2, h2f, RN, qA, qB, qC, qD, qE, qF]
   refine loop _ o' ar' _ h1 h2 (by rw [someS, hs]; simp) (by simp; omega) (fun env o' ar' h1 h2 => ?_)
   simp only [RN, qA, qB, qC, qD, qE, qF]
   exact hK o' ar' h1 h2
end
end Go.Tel
open Nat renaming reduceBEq → qA, reduceAdd → qB, reduceSub → qC, reduceEqDiff → qD, reduceLT → qE, reduceLeDiff → qF
namespace Go.Am
theorem pure_of_pwp_fs {C : Ctx} (hm : C.P.follows .mixedOrders = true) {f : FuncId} {ds : List DV} {x : DV} {pc : PCode} {rs : List PRes} {nargs : Nat} (hn : (ds.map PV.d).length = nargs) (hc : chkFn C.P f nargs pc rs = true)
  (h : pwp C 0 0 pc (endQ rs (fun p M => ∃ y, datum M p = some y ∧ y.strip = x) (fun _ _ => False)) ⟨envOf 0 (ds.map .d), noMem⟩) : Pure C f ds (.d x) [] := by
 have hsc : SC C f (ds.map .d) noMem (fun p M => ∃ y, datum M p = some y ∧ y.strip = x) (fun _ _ => False) := sc_of_pwp hm hn hc h
 intro X w vals hG hl hx hr
 refine (hsc X w ⟨[], []⟩ vals (sim_none hG hl hx) (RepP.ofD (hr.weaken away_none))).mono fun e w' he => ?_
 cases e with
 | returned v =>
  obtain ⟨p, M', E', ⟨y, hd, rfl⟩, h2, h3, h4⟩ := he
  have hz : okSel M' [] := ⟨fun q hq => (by cases hq), List.nodup_nil⟩
  exact ⟨v, _, rfl, sim_sel h2 hz, from_sel h3 hz, .d (((datum_frz (ps := [p]) h2 h4 hd (by simp)).weaken fun b hb => .inl (away_none b hb)).strip)⟩
 | panicked c =>
  obtain ⟨v, d, M', E', _, hh, _⟩ := he
  exact hh.elim
 | outgrown => exact he.elim
theorem sc_strip1 {C : Ctx} {f : FuncId} {x : DV} {args : List PV} {M : Mem} {K : PV → Mem → Prop} {KP : DV → Mem → Prop} (h : SC C f (.d x.strip :: args) M K KP) : SC C f (.d x :: args) M K KP := by
 intro X w E vals hs hr
 cases hr with
 | cons h1 t => cases h1 with
  | d hd => exact h X w E _ hs (.cons (.d hd.strip) t)
theorem allD_p {b o : Nat} {l : List PV} : allD (.ptr b o :: l) = none := rfl
theorem dcells_slice {b : Bool} {xs : List DV} : DV.cells (.slice b xs) = [.slice b xs] := rfl
theorem cells_f {fn : Fn} {f c : List PV} : PV.cells (.func fn f c) = [.func fn f c] := rfl
theorem one_f {fn : Fn} {f c : List PV} : PV.one (.func fn f c) = true := rfl
end Go.Am
namespace Go.Tel
open Go.Am
set_option maxRecDepth 10000 in
theorem some_c (n : Nat) (hn : n ≤ 19) {fn : FuncId} {caps : List DV} {s : List Int → Bool} (hc : callable C.P fn = true) (hp : ∀ l : List Int, l.length ≤ 100 → (∀ x ∈ l, 0 ≤ x ∧ x < (n : Int)) → Pure C fn ([dvL l] ++ caps.map DV.strip) (.d (.bool (s l))) []) :
  Pure C F.plate_some [.int .i64 n, .func (.func fn) [] caps] (.d (.slice false ((someS s n n []).map dvL))) [] := by
 refine pure_of_pwp_fs mixed rfl ok_plate_some ?_
 simp only [pc_plate_some, rs_plate_some, allD_p, Option.map_none, cells_f, one_f, RN, qA, qB, qC, qD, qE, qF]
 refine ev_callF (args := [_, _]) (by kernel_rfl) (cs := [_, _, _, _]) ?_
 have e : (DV.slice true []).strip = dvL [] := rfl
 simp only [List.nil_append, List.cons_append]
 refine sc_strip1 ?_
 rw [e]
 refine some_1_sc (s := s) hc hp _ _ [1, 0] (by decide) (by decide) (fun m => ⟨rfl, rfl⟩) n [] 0 [] _ [] _ _ (by omega) (by omega) (by omega) (by simp; omega) (by simp) ?_ (.inl ⟨rfl, rfl⟩) fun o' ar' h1 h2 => ?_
 ·have : 2 ^ n ≤ 2 ^ 19 := Nat.pow_le_pow_right (by decide) hn
  simp only [List.length_nil]; omega
 ·obtain ⟨hc1, hc2⟩ := h2.one
  have hd : PV.isDead o' = false := by rcases h2 with ⟨rfl, _⟩ | ⟨k, ver, rfl, _⟩ <;> rfl
  simp only [hc1, hc2, hd, RN, qA, qB, qC, qD, qE, qF]
  rcases h2 with ⟨rfl, h3⟩ | ⟨k, ver, rfl, h3⟩
  ·refine ⟨_, rfl, ?_⟩
   rw [List.nil_append] at h3
   rw [h3]; rfl
  ·refine ⟨_, by simp only [datum, row_m, h3]; simp; rfl, ?_⟩
   simp [DV.strip]
def cmpL : List Int → List Int → Int
 | [], [] => 0
 | [], _ :: _ => -1
 | _ :: _, [] => 1
 | x :: xs, y :: ys => if x < y then -1 else if y < x then 1 else cmpL xs ys
theorem isNaN_c (n : Int) : Pure C F.cmp_isNaN_int [.int .i64 n] (.d (.bool false)) [] := by
 refine pure_of_pwp_d mixed rfl ok_cmp_isNaN_int ?_
 simp only [pc_cmp_isNaN_int, rs_cmp_isNaN_int, RN, qA, qB, qC, qD, qE, qF]
 simp
def cmpI (x y : Int) : Int := if x < y then -1 else if y < x then 1 else 0
theorem cmpInt_c (x y : Int) : Pure C F.cmp_Compare_int [.int .i64 x, .int .i64 y] (.d (.int .i64 (cmpI x y))) [] := by
 refine pure_of_pwp_d mixed rfl ok_cmp_Compare_int ?_
 simp only [pc_cmp_Compare_int, rs_cmp_Compare_int, RN, qA, qB, qC, qD, qE, qF]
 repeat' first
  | (refine call_d rfl rfl (isNaN_c _) ?_; try simp only [RN, qA, qB, qC, qD, qE, qF])
  | (refine guard_split (by rfl) (fun hB => ?_) (fun hB => ?_) <;> simp only [hB, RN, qA, qB, qC, qD, qE, qF])
  | (refine cond_split (by rfl) (fun hB => ?_) (fun hB => ?_) <;> simp only [hB, RN, qA, qB, qC, qD, qE, qF])
 all_goals (simp only [decide_eq_true_eq, decide_eq_false_iff_not] at *; simp_all [cmpI]; try omega)
set_option maxRecDepth 10000 in
theorem cmpL_c (xs ys : List Int) (hl : xs.length ≤ 1000000) (hl' : ys.length ≤ 1000000) : Pure C F.slices_Compare_int [dvL xs, dvL ys] (.d (.int .i64 (cmpL xs ys))) [] := by
 refine pure_of_pwp_d mixed rfl ok_slices_Compare_int ?_
 simp only [pc_slices_Compare_int, rs_slices_Compare_int, dv_L, List.length_map, RN, qA, qB, qC, qD, qE, qF]
 refine pwp_range xs.length (fun i (_ : Unit) => ⟨[(0, .d (.slice false (xs.map intDV))), (1, .d (.slice false (ys.map intDV))), (9, .d (.slice false (xs.map intDV))), (10, .d (.int .i64 xs.length)), (11, .d (.int .i64 i))], ⟨[], [], []⟩⟩)
  (fun i _ => i ≤ ys.length ∧ cmpL xs ys = cmpL (xs.drop i) (ys.drop i)) 0 () (Nat.zero_le _) rfl ⟨Nat.zero_le _, rfl⟩ (fun i _ h1 hix => ?_) (fun _ hix => ?_)
 ·obtain ⟨h2, h3, h6⟩ := rng h1 hl
  obtain ⟨h7, hix⟩ := hix
  rw [drop_cons h1] at hix
  by_cases h8 : i < ys.length
  ·have h9 : ¬ ((i : Int) ≥ (ys.length : Int)) := by omega
   rw [drop_cons h8, cmpL] at hix
   simp only [h2, h3, h1, h8, h9, getD_map, Int.toNat_natCast, List.length_map, dv_int, RN, qA, qB, qC, qD, qE, qF]
   refine call_d rfl rfl (cmpInt_c _ _) ?_
   by_cases hz : cmpI (xs.getD i default) (ys.getD i default) = 0
   ·have hz' : (cmpI (xs.getD i default) (ys.getD i default) != 0) = false := by rw [hz]; rfl
    simp only [hz', h6, RN, qA, qB, qC, qD, qE, qF]
    refine up_same () h1 rfl ⟨h8, ?_⟩ (by simp) (by simp) rfl rfl
    rw [hix]
    simp only [cmpI] at hz
    split at hz
    ·omega
    ·rename_i hlt
     split at hz
     ·omega
     ·rename_i hgt
      rw [if_neg hlt, if_neg hgt]
   ·have hz' : (cmpI (xs.getD i default) (ys.getD i default) != 0) = true := by rw [bne_iff_ne]; exact hz
    simp only [hz', RN, qA, qB, qC, qD, qE, qF]
    rw [hix]
    simp only [cmpI] at hz ⊢
    split
    ·rfl
    ·rename_i hlt
     split
     ·rfl
     ·rename_i hgt; rw [if_neg hlt, if_neg hgt] at hz; exact (hz rfl).elim
  ·have h9 : ((i : Int) ≥ (ys.length : Int)) := by omega
   have h10 : ys.drop i = [] := List.drop_eq_nil_of_le (by omega)
   rw [h10, cmpL] at hix
   simp only [h2, h3, h1, h9, getD_map, Int.toNat_natCast, List.length_map, dv_int, hix, RN, qA, qB, qC, qD, qE, qF]
 ·obtain ⟨h7, hix⟩ := hix
  rw [List.drop_length] at hix
  by_cases h8 : xs.length < ys.length
  ·have h9 : ((xs.length : Int) < (ys.length : Int)) := by omega
   rw [drop_cons h8, cmpL] at hix
   simp only [Int.lt_irrefl, h9, List.length_map, hix, RN, qA, qB, qC, qD, qE, qF]
  ·have h9 : ¬ ((xs.length : Int) < (ys.length : Int)) := by omega
   have h10 : ys.drop xs.length = [] := List.drop_eq_nil_of_le (by omega)
   rw [h10, cmpL] at hix
   simp only [Int.lt_irrefl, h9, List.length_map, hix, RN, qA, qB, qC, qD, qE, qF]
def shorter (xs ys : List Int) : Bool := decide (xs.length < ys.length) || (decide (xs.length = ys.length) && decide (cmpL xs ys < 0))
theorem shorter_c (xs ys : List Int) (hl : xs.length ≤ 1000000) (hl' : ys.length ≤ 1000000) : Pure C F.plate_shorter [dvL xs, dvL ys] (.d (.bool (shorter xs ys))) [] := by
 refine pure_of_pwp_d mixed rfl ok_plate_shorter ?_
 have hc := cmpL_c xs ys hl hl'
 rw [dv_L, dv_L] at hc
 simp only [pc_plate_shorter, rs_plate_shorter, dv_L, List.length_map, RN, qA, qB, qC, qD, qE, qF]
 repeat' first
  | (refine call_d rfl rfl (hc) ?_; try simp only [List.length_map, RN, qA, qB, qC, qD, qE, qF])
  | (refine guard_split (by rfl) (fun hB => ?_) (fun hB => ?_) <;> simp only [hB, List.length_map, RN, qA, qB, qC, qD, qE, qF])
  | (refine cond_split (by rfl) (fun hB => ?_) (fun hB => ?_) <;> simp only [hB, List.length_map, RN, qA, qB, qC, qD, qE, qF])
 all_goals (simp only [decide_eq_true_eq, decide_eq_false_iff_not, beq_iff_eq, beq_eq_false_iff_ne, Int.ofNat_lt, Int.natCast_inj, ne_eq] at *; simp_all [shorter]; try omega)
def bestL {α : Type} (better : α → α → Bool) : List α → Option α → Option α
 | [], o => o
 | x :: l, none => bestL better l (some x)
 | x :: l, some y => bestL better l (some (if better x y then x else y))
def bestD (o : Option (List Int)) : DV := match o with | none => .slice true [] | some x => .slice false (x.map intDV)
theorem bestD_n : bestD none = .slice true [] := rfl
theorem bestD_s {x : List Int} : bestD (some x) = .slice false (x.map intDV) := rfl
set_option maxRecDepth 10000 in
theorem best_c (l : List (List Int)) (hl : l.length ≤ 1000000) {fn : FuncId} {caps : List DV} {s : List Int → List Int → Bool} (hc : callable C.P fn = true) (hp : ∀ x ∈ l, ∀ y ∈ l, Pure C fn ([dvL x, dvL y] ++ caps.map DV.strip) (.d (.bool (s x y))) []) :
  Pure C F.plate_best_int [.slice false (l.map dvL), .func (.func fn) [] caps] (.d (.tup [bestD (bestL s l none), .bool (decide (0 < l.length))])) [] := by
 refine pure_of_pwp_d mixed rfl ok_plate_best_int ?_
 simp only [pc_plate_best_int, rs_plate_best_int, List.length_map, RN, qA, qB, qC, qD, qE, qF]
 refine pwp_range l.length (fun i (o : Option (List Int)) => ⟨[(0, .d (.slice false (l.map dvL))), (1, .d (.func (.func fn) [] caps)), (6, .d (bestD o)), (9, .d (.slice false (l.map dvL))), (10, .d (.int .i64 l.length)), (11, .d (.int .i64 i))], ⟨[], [], []⟩⟩)
  (fun i o => bestL s l none = bestL s (l.drop i) o ∧ (o = none ↔ i = 0) ∧ (∀ y, o = some y → y ∈ l)) 0 none (Nat.zero_le _) rfl ⟨rfl, by simp, by simp⟩ (fun i o h1 hix => ?_) (fun o hix => ?_)
 ·obtain ⟨h2, h3, h6⟩ := rng h1 hl
  obtain ⟨hix, h7, h8⟩ := hix
  rw [drop_cons h1] at hix
  have hm := getD_mem h1
  cases o with
  | none =>
   obtain rfl : i = 0 := h7.1 rfl
   have h9 : (((0 : Nat) : Int) == 0) = true := rfl
   simp only [h2, h3, h1, h9, h6, getD_map, Int.toNat_natCast, List.length_map, dv_L, dcells_slice, RN, qA, qB, qC, qD, qE, qF]
   rw [bestL] at hix
   exact up_same (some (l.getD 0 default)) h1 rfl ⟨hix, by simp, fun y hy => by cases hy; exact hm⟩ (by simp) (by simp) rfl rfl
  | some y =>
   have h9 : ((i : Int) == 0) = false := by
    have : i ≠ 0 := fun h => by cases (h7.2 h)
    rw [beq_eq_false_iff_ne]; omega
   simp only [h2, h3, h1, h9, h6, getD_map, Int.toNat_natCast, List.length_map, dv_L, bestD_s, dcells_slice, RN, qA, qB, qC, qD, qE, qF]
   refine callV_d rfl hc (by simp only [List.nil_append, List.cons_append, List.map_cons, DV.strip]; rfl) (hp _ hm y (h8 y rfl)) ?_
   rw [bestL] at hix
   cases hs : s (l.getD i default) y
   ·simp only [h6, RN, qA, qB, qC, qD, qE, qF]
    rw [hs] at hix
    exact up_same (some y) h1 rfl ⟨hix, by simp, h8⟩ (by simp) (by simp) rfl rfl
   ·simp only [h6, RN, qA, qB, qC, qD, qE, qF]
    rw [hs] at hix
    exact up_same (some (l.getD i default)) h1 rfl ⟨hix, by simp, fun y hy => by cases hy; exact hm⟩ (by simp) (by simp) rfl rfl
 ·obtain ⟨hix, h7, h8⟩ := hix
  rw [List.drop_length, bestL] at hix
  have hg : decide ((l.length : Int) > 0) = decide (0 < l.length) := by simp
  simp only [Int.lt_irrefl, List.length_map, hix, hg, RN, qA, qB, qC, qD, qE, qF]
end Go.Tel
open Nat renaming reduceBEq → qA, reduceAdd → qB, reduceSub → qC, reduceEqDiff → qD, reduceLT → qE, reduceLeDiff → qF
namespace Go.Tel
open Go.Am
def Dvd.can (d : Dvd) (t : Int) (i : Int) : Bool := canCut d.worm (d.cir.getD i.toNat default) t
def Dvd.allCut (d : Dvd) (counts : List Int) (l : List Int) : Bool := !(counts.any fun n => !(l.any fun i => d.can n i))
set_option maxRecDepth 10000 in
theorem Circles_2_1_1_c (d : Dvd) (t : Int) (i : Int) (hd : d.ok = true) (hi : 0 ≤ i ∧ i < (d.cir.length : Int)) (ht : 1 ≤ t) :
  Pure C F.plate_Circles_2_1_1 [.int .i64 i, .cptr [.int .i64 d.worm, .slice false (d.cir.map intDV)], .cptr [.int .i64 t]] (.d (.bool (d.can t i))) [] := by
 obtain ⟨hw, hc, hcs⟩ := Dvd.ok_facts hd
 have hlt : i.toNat < d.cir.length := by omega
 have h := cuts_c d i.toNat t hw hlt (hcs _ (getD_mem hlt)) ht
 have e : ((i.toNat : Nat) : Int) = i := by omega
 rw [e, dv_Dvd, dv_Ix] at h
 refine pure_of_pwp_d mixed rfl ok_plate_Circles_2_1_1 ?_
 simp only [pc_plate_Circles_2_1_1, rs_plate_Circles_2_1_1, RN, qA, qB, qC, qD, qE, qF]
 refine call_d rfl rfl h ?_
 simp only [Dvd.can, RN, qA, qB, qC, qD, qE, qF]
set_option maxRecDepth 10000 in
theorem Circles_2_1_c (d : Dvd) (n : Int) (l : List Int) (hd : d.ok = true) (hl : l.length ≤ 100) (hi : ∀ i ∈ l, 0 ≤ i ∧ i < (d.cir.length : Int)) (ht : 1 ≤ n) :
  Pure C F.plate_Circles_2_1 [.int .i64 n, .cptr [.slice false (l.map intDV)], .cptr [.int .i64 d.worm, .slice false (d.cir.map intDV)]] (.d (.bool (!(l.any fun i => d.can n i)))) [] := by
 refine pure_of_pwp_d mixed rfl ok_plate_Circles_2_1 ?_
 simp only [pc_plate_Circles_2_1, rs_plate_Circles_2_1, RN, qA, qB, qC, qD, qE, qF]
 refine call_d rfl rfl (containsFInt_c l F.plate_Circles_2_1_1 _ (fun i => d.can n i) (by omega) (by kernel_rfl) fun i hi' => ?_) ?_
 ·exact Circles_2_1_1_c d n i hd (hi i hi') ht
 ·simp only [RN, qA, qB, qC, qD, qE, qF]
set_option maxRecDepth 10000 in
theorem Circles_2_c (d : Dvd) (counts : List Int) (l : List Int) (hd : d.ok = true) (hl : l.length ≤ 100) (hi : ∀ i ∈ l, 0 ≤ i ∧ i < (d.cir.length : Int)) (hc : counts.length ≤ 100) (ht : ∀ n ∈ counts, 1 ≤ n) :
  Pure C F.plate_Circles_2 [dvL l, .cptr [.slice false (counts.map intDV)], .cptr [.int .i64 d.worm, .slice false (d.cir.map intDV)]] (.d (.bool (d.allCut counts l))) [] := by
 refine pure_of_pwp_d mixed rfl ok_plate_Circles_2 ?_
 simp only [pc_plate_Circles_2, rs_plate_Circles_2, dv_L, RN, qA, qB, qC, qD, qE, qF]
 refine call_d rfl rfl (containsFInt_c counts F.plate_Circles_2_1 _ (fun n => !(l.any fun i => d.can n i)) (by omega) (by kernel_rfl) fun n hn => ?_) ?_
 ·exact Circles_2_1_c d n l hd hl hi (ht n hn)
 ·simp only [Dvd.allCut, RN, qA, qB, qC, qD, qE, qF]
set_option maxRecDepth 10000 in
theorem Circles_1_c (n : Int) : Pure C F.plate_Circles_1 [.int .i64 n] (.d (.bool (!inR n 1 400))) [] := by
 refine pure_of_pwp_d mixed rfl ok_plate_Circles_1 ?_
 simp only [pc_plate_Circles_1, rs_plate_Circles_1, RN, qA, qB, qC, qD, qE, qF]
 refine call_d rfl rfl (isCount_c _) ?_
 simp only [RN, qA, qB, qC, qD, qE, qF]
theorem someR_all (s : List Int → Bool) (below : Int) : ∀ (k : Nat) (now : List Int), ∀ l ∈ someR s below k now, l.length ≤ now.length + k ∧ s l = true
 | 0, now => by simp [someR]
 | k + 1, now => by
  intro l hl
  rw [someR_succ, someS] at hl
  simp only [List.mem_append] at hl
  rcases hl with (hl | hl) | hl
  ·split at hl
   ·simp only [List.mem_singleton] at hl; subst hl
    rename_i h; exact ⟨by simp, h⟩
   ·cases hl
  ·have := someR_all s below k _ l hl
   simp only [List.length_append, List.length_cons, List.length_nil] at this
   exact ⟨by omega, this.2⟩
  ·have := someR_all s below k _ l hl
   exact ⟨by omega, this.2⟩
theorem someS_all {s : List Int → Bool} {below : Int} {k : Nat} {now l : List Int} (h : l ∈ someS s below k now) : l.length ≤ now.length + k ∧ s l = true := by
 rw [someS] at h
 rcases List.mem_append.1 h with h | h
 ·split at h
  ·simp only [List.mem_singleton] at h; subst h
   rename_i h; exact ⟨by omega, h⟩
  ·cases h
 ·exact someR_all s below k now l h
def Dvd.circles (d : Dvd) (counts : List Int) : Option (List Int) × Int :=
 if d.ok && inR counts.length 1 6 && !(counts.any fun n => !inR n 1 400) then
  (match bestL shorter (someS (d.allCut counts) d.cir.length d.cir.length []) none with | none => (none, 5) | some x => (some x, 0))
 else (none, 2)
set_option maxRecDepth 10000 in
theorem Circles_c (d : Dvd) (counts : List Int) (hl : d.cir.length ≤ 1000000) (hl' : counts.length ≤ 1000000) :
  Pure C F.plate_Circles [d.dv, .slice false (counts.map intDV)] (.d (.tup [bestD (d.circles counts).1, .int .i64 (d.circles counts).2])) [] := by
 refine pure_of_pwp_d mixed rfl ok_plate_Circles ?_
 simp only [pc_plate_Circles, rs_plate_Circles, dv_Dvd, RN, qA, qB, qC, qD, qE, qF]
 repeat' first
  | (refine call_d rfl rfl (isDivider_c d hl) ?_; try simp only [List.length_map, RN, qA, qB, qC, qD, qE, qF])
  | (refine call_d rfl rfl (in_c _ _ _) ?_; try simp only [List.length_map, RN, qA, qB, qC, qD, qE, qF])
  | (refine call_d rfl rfl (containsFInt_c counts F.plate_Circles_1 [] (fun n => !inR n 1 400) hl' (by kernel_rfl) (fun n _ => Circles_1_c n)) ?_; try simp only [List.length_map, RN, qA, qB, qC, qD, qE, qF])
  | (refine guard_split (by rfl) (fun hB => ?_) (fun hB => ?_) <;> simp only [hB, List.length_map, RN, qA, qB, qC, qD, qE, qF])
  | (refine cond_split (by rfl) (fun hB => ?_) (fun hB => ?_) <;> simp only [hB, List.length_map, RN, qA, qB, qC, qD, qE, qF])
 any_goals (rw [Dvd.circles, if_neg (by intro h; rw [Bool.and_eq_true, Bool.and_eq_true] at h; obtain ⟨⟨h1, h2⟩, h3⟩ := h; first | (rw [h1] at hB; cases hB) | (rw [h2] at hB; cases hB) | (rw [hB] at h3; cases h3))]; rfl)
 have hd : d.ok = true := by simp_all
 have hn : inR counts.length 1 6 = true := by simp_all
 obtain ⟨hw, hc, hcs⟩ := Dvd.ok_facts hd
 have hn' : counts.length ≤ 100 := by simp only [inR, Bool.and_eq_true, decide_eq_true_eq] at hn; omega
 have ht : ∀ n ∈ counts, 1 ≤ n := by
  intro n hm
  have := (List.any_eq_false.1 hB) n hm
  simp only [inR, Bool.not_eq_true', Bool.not_eq_false, Bool.and_eq_true, decide_eq_true_eq] at this; omega
 have hp2 : 2 ^ d.cir.length ≤ 2 ^ 6 := Nat.pow_le_pow_right (by decide) hc.2
 have hsl := someS_len (d.allCut counts) d.cir.length d.cir.length []
 refine call_d rfl rfl (some_c d.cir.length (by omega) (fn := F.plate_Circles_2) (caps := _) (s := d.allCut counts) (by kernel_rfl) fun l h1 h2 => ?_) ?_
 ·exact Circles_2_c d counts l hd h1 h2 hn' ht
 refine call_d rfl rfl (best_c (someS (d.allCut counts) d.cir.length d.cir.length []) (by omega) (fn := F.plate_shorter) (caps := []) (s := shorter) (by kernel_rfl) fun x hx y hy => ?_) ?_
 ·have h1 := (someS_all hx).1
  have h2 := (someS_all hy).1
  exact shorter_c x y (by simp at h1; omega) (by simp at h2; omega)
 have hg : (d.ok && inR counts.length 1 6 && !(counts.any fun n => !inR n 1 400)) = true := by rw [hd, hn, hB]; rfl
 cases hl : someS (d.allCut counts) d.cir.length d.cir.length [] with
 | nil =>
  simp only [RN, qA, qB, qC, qD, qE, qF]
  rw [Dvd.circles, if_pos hg, hl]; rfl
 | cons x xs =>
  have e9 : decide (0 < xs.length + 1) = true := by simp
  simp only [e9, RN, qA, qB, qC, qD, qE, qF]
  rw [Dvd.circles, if_pos hg, hl]
  have hs : ∀ (l : List (List Int)) (y : List Int), ∃ z, bestL shorter l (some y) = some z := by
   intro l; induction l with
   | nil => intro y; exact ⟨y, rfl⟩
   | cons a l ih => intro y; rw [bestL]; exact ih _
  obtain ⟨z, hz⟩ := hs xs x
  rw [show bestL shorter (x :: xs) none = some z from hz]
end Go.Tel
open Nat renaming reduceBEq → qA, reduceAdd → qB, reduceSub → qC, reduceEqDiff → qD, reduceLT → qE, reduceLeDiff → qF
namespace Go.Am
theorem store_ei {bs : List (Option (List PV))} {fz : List Nat} {ar : List (Option Arr)} {K : Mem → Prop} {k ver i : Nat} {xs : List Int} {g : Int} (h : ar[k]? = some (some ⟨1, xs.map Go.Tel.intDV, ver, 1⟩)) (hi : i < xs.length)
  (hK : K ⟨bs, fz, ar.set k (some ⟨1, (xs.set i g).map Go.Tel.intDV, ver, 1⟩)⟩) : runStore 1 (.eptr k ver i 0) (.d (.int .i64 g)) ⟨bs, fz, ar⟩ K := by
 simp only [runStore, row_m, h]
 have hd : (xs.map Go.Tel.intDV).getD i default = Go.Tel.intDV (xs.getD i default) := Go.Tel.getD_map hi
 have ha : allD [PV.d (DV.int IntKind.i64 g)] = some [.int .i64 g] := rfl
 have hs : (xs.map Go.Tel.intDV).set i (.int .i64 g) = (xs.set i g).map Go.Tel.intDV := by rw [List.map_set]; simp only [Go.Tel.dv_int]
 simp only [if_true, PV.cells, ha, hd, Go.Tel.dv_int, setCells, List.getD_cons_zero, hs]
 exact ⟨trivial, by decide, rfl, rfl, Nat.le_refl _, hK⟩
end Go.Am
namespace Go.Tel
open Go.Am
def grpM : List Ms → List Int → List Int
 | [], G => G
 | m :: l, G => grpM l ((G.set m.a.toNat (min (G.getD m.a.toNat default) (G.getD m.b.toNat default))).set m.b.toNat (min (G.getD m.a.toNat default) (G.getD m.b.toNat default)))
def grpN (ms : List Ms) : Nat → List Int → List Int
 | 0, G => G
 | k + 1, G => grpN ms k (grpM ms G)
def upTo (n : Nat) : List Int := (List.range n).map Int.ofNat
def Piece.groups (p : Piece) : List Int := grpN p.ms p.ws.length (upTo p.ws.length)
theorem upTo_succ (n : Nat) : upTo (n + 1) = upTo n ++ [(n : Int)] := by simp [upTo, List.range_succ]
theorem upTo_len (n : Nat) : (upTo n).length = n := by simp [upTo]
theorem grpM_len : ∀ (ms : List Ms) (G : List Int), (grpM ms G).length = G.length
 | [], _ => rfl
 | m :: ms, G => by rw [grpM, grpM_len ms]; simp
def Laid.cells (l : Laid) : List DV := [.int .i64 l.p.w, .int .i64 l.p.h, .int .i64 l.p.pl, .int .i64 l.p.ga, .int .i64 l.p.po, .slice false (l.p.cs.map Pt.dv), .slice false (l.p.ws.map Wh.dv), .slice false (l.p.ms.map Ms.dv),
  .map (some (l.mm.map fun m => (m.dv, .bool true))), .slice false (l.gone.map intDV)]
theorem getD_mapI {G : List Int} {i : Nat} (h : i < G.length) : (G.map intDV).getD i default = .int .i64 (G.getD i default) := by rw [getD_map h, dv_int]
theorem minmax_m {a b : Int} : (if b < a then b else a) = min a b := by omega
set_option maxRecDepth 10000 in
set_option maxHeartbeats 2000000 in
theorem groups_c (l : Laid) (hw : l.p.ws.length ≤ 1000) (hm : l.p.ms.length ≤ 1000) (hms : ∀ m ∈ l.p.ms, l.p.isW m.a ∧ l.p.isW m.b) : Pure C F.plate_laid_groups [l.dv] (.d (.slice false (l.p.groups.map intDV))) [] := by
 refine pure_of_pwp_fs mixed rfl ok_plate_laid_groups ?_
 simp only [pc_plate_laid_groups, rs_plate_laid_groups, dv_Laid, List.length_map, List.not_mem_nil, RN, qA, qB, qC, qD, qE, qF]
 refine pwp_range l.p.ws.length (fun i (_ : Unit) => ⟨[(1, .d (.cptr l.cells)), (3, .tsl 1 i 0), (11, .d (.int .i64 l.p.ws.length)), (12, .d (.int .i64 i))], ⟨[some (l.cells.map .d)], [0], [some ⟨1, [], 0, 0⟩, some ⟨1, (upTo i).map intDV, i, min i 1⟩]⟩⟩)
  (fun _ _ => True) 0 () (Nat.zero_le _) rfl trivial (fun i _ h1 _ => ?_) (fun _ _ => ?_)
 ·obtain ⟨h2, h3, h6⟩ := rng h1 (by omega)
  have hlu : ((upTo i).map intDV).length + 1 ≤ 1073741824 := by simp [upTo_len]; omega
  have hst : min i 1 ≠ 2 := by omega
  simp only [h2, h6, ev_mkSl1, fits_int, forall_eq, DV.strip, dcells_int, List.length_map, RN, qA, qB, qC, qD, qE, qF]
  refine ⟨by simp, hst, by rw [List.length_map] at hlu; omega, ?_⟩
  refine up_same () h1 ?_ trivial (by simp) (by simp) ?_ rfl
  ·rw [upTo_succ, List.map_append, List.map_cons, List.map_nil, dv_int, show min (i + 1) 1 = 1 by omega]; rfl
  ·simp [PV.upto]
 ·simp only [Int.lt_irrefl, List.length_map, Laid.cells, RN, qA, qB, qC, qD, qE, qF]
  refine pwp_range l.p.ws.length (fun i (G : List Int) => ⟨[(1, .d (.cptr l.cells)), (3, .tsl 1 l.p.ws.length 0), (23, .d (.int .i64 l.p.ws.length)), (24, .d (.int .i64 i))], ⟨[some (l.cells.map .d)], [0], [some ⟨1, [], 0, 0⟩, some ⟨1, G.map intDV, l.p.ws.length, min l.p.ws.length 1⟩]⟩⟩)
   (fun i G => G.length = l.p.ws.length ∧ l.p.groups = grpN l.p.ms (l.p.ws.length - i) G) 0 (upTo l.p.ws.length) (Nat.zero_le _) rfl ⟨upTo_len _, rfl⟩ (fun i G h1 hix => ?_) (fun G hix => ?_)
  ·obtain ⟨h2, h3, h6⟩ := rng h1 (by omega)
   obtain ⟨hG, hix⟩ := hix
   have hmin : min l.p.ws.length 1 = 1 := by omega
   rw [show l.p.ws.length - i = (l.p.ws.length - (i + 1)) + 1 by omega, grpN] at hix
   simp only [h2, List.length_map, Laid.cells, hmin, RN, qA, qB, qC, qD, qE, qF]
   refine pwp_range l.p.ms.length (fun j (G : List Int) => ⟨[(1, .d (.cptr l.cells)), (3, .tsl 1 l.p.ws.length 0), (23, .d (.int .i64 l.p.ws.length)), (24, .d (.int .i64 i)), (28, .d (.slice false (l.p.ms.map Ms.dv))), (29, .d (.int .i64 l.p.ms.length)), (30, .d (.int .i64 j))],
     ⟨[some (l.cells.map .d)], [0], [some ⟨1, [], 0, 0⟩, some ⟨1, G.map intDV, l.p.ws.length, 1⟩]⟩⟩)
    (fun j G' => G'.length = l.p.ws.length ∧ grpM l.p.ms G = grpM (l.p.ms.drop j) G') 0 G (Nat.zero_le _) rfl ⟨hG, rfl⟩ (fun j G' g1 hjx => ?_) (fun G' hjx => ?_)
   ·obtain ⟨g2, g3, g6⟩ := rng g1 (by omega)
    obtain ⟨hG', hjx⟩ := hjx
    rw [drop_cons g1, grpM] at hjx
    obtain ⟨⟨a1, a2⟩, b1, b2⟩ := hms _ (getD_mem g1)
    rw [← hG'] at a2 b2
    simp only [g2, g3, g1, g6, getD_map, getD_mapI, Int.toNat_natCast, List.length_map, Laid.cells, dv_Ms, a1, a2, b1, b2, minmax_f, List.not_mem_nil, dv_int, minmax_m, RN, qA, qB, qC, qD, qE, qF]
    refine store_ei (xs := G') rfl a2 ?_
    simp only [List.length_map, List.length_set, b1, b2, RN, qA, qB, qC, qD, qE, qF]
    refine store_ei (xs := G'.set _ _) rfl (by simpa using b2) ?_
    simp only [RN, qA, qB, qC, qD, qE, qF]
    refine up_take 1 2 _ g1 ?_ ⟨?_, hjx⟩ (by simp) (by simp) ?_ ?_
    ·rfl
    ·simp [hG']
    ·simp [PV.upto]
    ·simp [PV.upto, Laid.cells]
   ·obtain ⟨hG', hjx⟩ := hjx
    rw [List.drop_length, grpM] at hjx
    simp only [Int.lt_irrefl, List.length_map, h6, RN, qA, qB, qC, qD, qE, qF]
    refine up_same G' h1 ?_ ⟨hG', by rw [hix, hjx]⟩ (by simp) (by simp) ?_ ?_
    ·rfl
    ·simp [PV.upto]
    ·simp [PV.upto, Laid.cells]
  ·obtain ⟨hG, hix⟩ := hix
   rw [Nat.sub_self, grpN] at hix
   simp only [Int.lt_irrefl, List.length_map, RN, qA, qB, qC, qD, qE, qF]
   exact ⟨_, datum_tsl (k := 1) rfl rfl, by rw [hix]; rfl⟩
end Go.Tel
open Nat renaming reduceBEq → qA, reduceAdd → qB, reduceSub → qC, reduceEqDiff → qD, reduceLT → qE, reduceLeDiff → qF
namespace Go.Tel
open Go.Am
def badL (p : Piece) (G : List Int) (i : Nat) (n : Int) : Nat → List Int → Bool
 | _, [] => false
 | k, x :: xs => ((G.getD k default == G.getD i default && x != n) || (x == n && p.clash k i)) || badL p G i n (k + 1) xs
def layS (p : Piece) (G : List Int) (most : Nat) : Nat → List Int → Option (List Int)
 | 0, now => some now
 | r + 1, now => (upTo (most + 1)).findSome? fun n => if badL p G now.length n 0 now then none else layS p G most r (now ++ [n])
theorem upTo_getD {n i : Nat} (h : i < n) : (upTo n).getD i default = i := by
 simp [upTo, List.getD_eq_getElem?_getD, h]
theorem w64_nat {n : Nat} (h : n ≤ 1000000) : IntKind.i64.wrap ((n : Int) + 1) = ((n + 1 : Nat) : Int) := by rw [w64_in (by omega)]; omega
set_option maxRecDepth 10000 in
set_option maxHeartbeats 2000000 in
theorem laying_1_sc (l : Laid) (hf : l.fine) (hg : l.p.good) (G : List Int) (most : Nat) (hmo : most ≤ 100) (hG : G.length = l.p.ws.length) (x0 x1 x2 : Option (List PV)) (fz : List Nat) (h3f : 3 ∉ fz) (hfz : ∀ b ∈ fz, b < 5)
  (hx : ∀ n, ((x0.getD []).all fun p => p.upto 5 n) = true ∧ ((x1.getD []).all fun p => p.upto 5 n) = true ∧ ((x2.getD []).all fun p => p.upto 5 n) = true) (od : DV) (ho1 : od.cells = [od]) (ho2 : od.one = true) :
  ∀ (r : Nat) (now : List Int) (ar : List (Option Arr)) (K : PV → Mem → Prop) (KP : DV → Mem → Prop), now.length + r = l.p.ws.length →
   (∀ ar', ar.length ≤ ar'.length → K (.d (.bool (layS l.p G most r now).isSome)) ⟨[x0, x1, x2, some [.d (match layS l.p G most r now with | some x => .slice false (x.map intDV) | none => od)], some [.func (.func F.plate_laid_laying_1) [] [.d (.cptr l.cells), .ptr 3 0, .d (.cptr [.int .i64 most]), .d (.cptr [.slice false (G.map intDV)]), .ptr 4 0]]], fz, ar'⟩) →
   SC C F.plate_laid_laying_1 [.d (.slice false (now.map intDV)), .d (.cptr l.cells), .ptr 3 0, .d (.cptr [.int .i64 most]), .d (.cptr [.slice false (G.map intDV)]), .ptr 4 0]
    ⟨[x0, x1, x2, some [.d od], some [.func (.func F.plate_laid_laying_1) [] [.d (.cptr l.cells), .ptr 3 0, .d (.cptr [.int .i64 most]), .d (.cptr [.slice false (G.map intDV)]), .ptr 4 0]]], fz, ar⟩ K KP := by
 intro r
 have hlw := hg.lw
 induction r with
 | zero =>
  intro now ar K KP hk hK
  refine sc_of_pwp mixed rfl ok_plate_laid_laying_1 ?_
  have e : ((now.length : Int) == (l.p.ws.length : Int)) = true := by rw [beq_iff_eq]; omega
  simp only [pc_plate_laid_laying_1, rs_plate_laid_laying_1, Laid.cells, List.length_map, e, h3f, RN, qA, qB, qC, qD, qE, qF]
  exact hK ar (Nat.le_refl _)
 | succ r ih =>
  intro now ar K KP hk hK
  refine sc_of_pwp mixed rfl ok_plate_laid_laying_1 ?_
  have e : ((now.length : Int) == (l.p.ws.length : Int)) = false := by rw [beq_eq_false_iff_ne]; omega
  simp only [pc_plate_laid_laying_1, rs_plate_laid_laying_1, Laid.cells, List.length_map, e, h3f, w64_nat (show most ≤ 1000000 by omega), RN, qA, qB, qC, qD, qE, qF]
  refine pwp_range (most + 1) (fun n (ar' : List (Option Arr)) => ⟨[(0, .d (.slice false (now.map intDV))), (1, .d (.cptr l.cells)), (4, .d (.cptr [.slice false (G.map intDV)])), (5, .ptr 4 0), (8, .d (.int .i64 now.length)), (22, .d (.int .i64 (most + 1 : Nat))), (23, .d (.int .i64 n))],
    ⟨[x0, x1, x2, some [.d od], some [.func (.func F.plate_laid_laying_1) [] [.d (.cptr l.cells), .ptr 3 0, .d (.cptr [.int .i64 most]), .d (.cptr [.slice false (G.map intDV)]), .ptr 4 0]]], fz, ar'⟩⟩)
   (fun n ar' => ar.length ≤ ar'.length ∧ layS l.p G most (r + 1) now = ((upTo (most + 1)).drop n).findSome? fun n => if badL l.p G now.length n 0 now then none else layS l.p G most r (now ++ [n])) 0 ar (Nat.zero_le _) rfl ⟨Nat.le_refl _, rfl⟩ (fun n ar' h1 hix => ?_) (fun ar' hix => ?_)
  ·obtain ⟨h2, h3, h6⟩ := rng h1 (by omega)
   obtain ⟨har, hix⟩ := hix
   have hlen : n < (upTo (most + 1)).length := by rw [upTo_len]; exact h1
   have hU : ∀ m, (List.all [x0, x1, x2, some [.d od], some [.func (.func F.plate_laid_laying_1) [] [.d (.cptr l.cells), .ptr 3 0, .d (.cptr [.int .i64 most]), .d (.cptr [.slice false (G.map intDV)]), .ptr 4 0]]] fun c => (c.getD []).all fun p => p.upto 5 m) = true := by
    intro m
    obtain ⟨u0, u1, u2⟩ := hx m
    rw [List.all_cons, List.all_cons, List.all_cons, u0, u1, u2]
    simp [PV.upto, uptoL]
   have hfz' : fz.filter (fun b => decide (b < 5)) = fz := List.filter_eq_self.2 fun b hb => by simpa using hfz b hb
   rw [drop_cons hlen, upTo_getD h1, List.findSome?_cons] at hix
   have hiw : now.length < G.length := by omega
   have hisW : l.p.isW (now.length : Int) := ⟨by omega, by omega⟩
   simp only [h2, List.length_map, Laid.cells, RN, qA, qB, qC, qD, qE, qF]
   refine pwp_range now.length (fun k (_ : Unit) => ⟨[(0, .d (.slice false (now.map intDV))), (1, .d (.cptr l.cells)), (4, .d (.cptr [.slice false (G.map intDV)])), (5, .ptr 4 0), (8, .d (.int .i64 now.length)), (9, .d (.int .i64 n)), (22, .d (.int .i64 (most + 1 : Nat))), (23, .d (.int .i64 n)),
     (26, .d (.slice false (now.map intDV))), (27, .d (.int .i64 now.length)), (28, .d (.int .i64 k))],
     ⟨[x0, x1, x2, some [.d od], some [.func (.func F.plate_laid_laying_1) [] [.d (.cptr l.cells), .ptr 3 0, .d (.cptr [.int .i64 most]), .d (.cptr [.slice false (G.map intDV)]), .ptr 4 0]]], fz, ar'⟩⟩)
    (fun k _ => badL l.p G now.length n 0 now = badL l.p G now.length n k (now.drop k)) 0 () (Nat.zero_le _) rfl rfl (fun k _ g1 hkx => ?_) (fun _ hkx => ?_)
   ·obtain ⟨g2, g3, g6⟩ := rng g1 (by omega)
    rw [drop_cons g1, badL] at hkx
    have hkw : k < G.length := by omega
    have hkW : l.p.isW (k : Int) := ⟨by omega, by omega⟩
    have i3 : (0 : Int) ≤ (now.length : Int) := by omega
    have hcl := laid_clash_c l hg hf k now.length hkW hisW
    rw [dv_Laid] at hcl
    cases hA : (G.getD k default == G.getD now.length default) <;> cases hN : (now.getD k default == (n : Int)) <;> rw [hA] at hkx <;> simp only [bne, hN, Bool.not_true, Bool.not_false, Bool.and_true, Bool.and_false, Bool.true_and, Bool.false_and, Bool.or_false, Bool.false_or, Bool.true_or] at hkx
    ·simp only [g2, g3, g1, g6, getD_mapI, getD_map, Int.toNat_natCast, List.length_map, Laid.cells, hkw, hiw, i3, hA, hN, bne, dv_int, List.not_mem_nil, RN, qA, qB, qC, qD, qE, qF]
     exact up_same () g1 (by show (⟨_, ⟨_, fz.filter (fun b => decide (b < 5)), _⟩⟩ : St) = _; rw [hfz']) hkx (Nat.le_refl _) har (by simp [PV.upto]) (hU _)
    ·simp only [g2, g3, g1, g6, getD_mapI, getD_map, Int.toNat_natCast, List.length_map, Laid.cells, hkw, hiw, i3, hA, hN, bne, dv_int, List.not_mem_nil, RN, qA, qB, qC, qD, qE, qF]
     refine call_d rfl rfl hcl ?_
     cases hC : l.p.clash k now.length
     ·simp only [g6, RN, qA, qB, qC, qD, qE, qF]
      rw [hC, Bool.false_or] at hkx
      exact up_same () g1 (by show (⟨_, ⟨_, fz.filter (fun b => decide (b < 5)), _⟩⟩ : St) = _; rw [hfz']) hkx (Nat.le_refl _) har (by simp [PV.upto]) (hU _)
     ·simp only [h6, RN, qA, qB, qC, qD, qE, qF]
      rw [hC, Bool.true_or] at hkx
      simp only [hkx, if_true] at hix
      exact up_same ar' h1 (by show (⟨_, ⟨_, fz.filter (fun b => decide (b < 5)), _⟩⟩ : St) = _; rw [hfz']) ⟨har, hix⟩ (Nat.le_refl _) har (by simp [PV.upto]) (hU _)
    ·simp only [g2, g3, g1, h6, getD_mapI, getD_map, Int.toNat_natCast, List.length_map, Laid.cells, hkw, hiw, i3, hA, hN, bne, dv_int, List.not_mem_nil, RN, qA, qB, qC, qD, qE, qF]
     simp only [hkx, if_true] at hix
     exact up_same ar' h1 (by show (⟨_, ⟨_, fz.filter (fun b => decide (b < 5)), _⟩⟩ : St) = _; rw [hfz']) ⟨har, hix⟩ (Nat.le_refl _) har (by simp [PV.upto]) (hU _)
    ·simp only [g2, g3, g1, g6, getD_mapI, getD_map, Int.toNat_natCast, List.length_map, Laid.cells, hkw, hiw, i3, hA, hN, bne, dv_int, List.not_mem_nil, RN, qA, qB, qC, qD, qE, qF]
     refine call_d rfl rfl hcl ?_
     cases hC : l.p.clash k now.length
     ·simp only [g6, RN, qA, qB, qC, qD, qE, qF]
      rw [hC, Bool.false_or] at hkx
      exact up_same () g1 (by show (⟨_, ⟨_, fz.filter (fun b => decide (b < 5)), _⟩⟩ : St) = _; rw [hfz']) hkx (Nat.le_refl _) har (by simp [PV.upto]) (hU _)
     ·simp only [h6, RN, qA, qB, qC, qD, qE, qF]
      rw [hC, Bool.true_or] at hkx
      simp only [hkx, if_true] at hix
      exact up_same ar' h1 (by show (⟨_, ⟨_, fz.filter (fun b => decide (b < 5)), _⟩⟩ : St) = _; rw [hfz']) ⟨har, hix⟩ (Nat.le_refl _) har (by simp [PV.upto]) (hU _)
   ·rw [List.drop_length, badL] at hkx
    rw [hkx] at hix
    simp only [Int.lt_irrefl, List.length_map, RN, qA, qB, qC, qD, qE, qF]
    simp only [Bool.false_eq_true, if_false] at hix
    refine call_r rfl rfl (cloneInt_c _ (ints_fit now) (by simp; omega)) (by simp) ?_
    refine ⟨rfl, ev_appF (k := ar'.length) (sz := 1) (xs := now.map intDV) (ver := 0) (st := 0) (skip := 0) (by simp [PV.shift]) (by decide) (by decide) (by simp [DV.strip, DV.fits, DV.cells, DV.one]) (by simp; omega) ?_⟩
    refine ev_callF (args := [_]) (by kernel_rfl) (cs := [_, _, _, _, _]) ?_
    have e1 : (.d (.slice false ((now.map intDV).drop 0 ++ [(DV.int IntKind.i64 (n : Int)).strip])) : PV) = .d (.slice false ((now ++ [(n : Int)]).map intDV)) := by simp [intDV, DV.strip]
    simp only [e1, List.nil_append, List.cons_append]
    refine ih _ _ _ _ (by simp; omega) fun ar'' h => ?_
    have h' : ar'.length + 1 ≤ ar''.length := by simpa using h
    cases hL : layS l.p G most r (now ++ [(n : Int)]) with
    | none =>
     rw [hL] at hix
     simp only [Option.isSome_none]
     simp only [h6, RN, qA, qB, qC, qD, qE, qF]
     exact up_same ar'' h1 (by show (⟨_, ⟨_, fz.filter (fun b => decide (b < 5)), _⟩⟩ : St) = _; rw [hfz']; rfl) ⟨by omega, hix⟩ (Nat.le_refl _) (by omega) (by simp [PV.upto]) (hU _)
    | some x =>
     rw [hL] at hix
     simp only [Option.isSome_some]
     simp only [RN, qA, qB, qC, qD, qE, qF]
     have := hK ar'' (by omega)
     rw [hix] at this
     exact this
  ·obtain ⟨har, hix⟩ := hix
   rw [List.drop_eq_nil_of_le (by rw [upTo_len]; omega), List.findSome?_nil] at hix
   simp only [Int.lt_irrefl, List.length_map, RN, qA, qB, qC, qD, qE, qF]
   have := hK ar' har
   rw [hix] at this
   exact this
set_option maxRecDepth 10000 in
set_option maxHeartbeats 1000000 in
theorem laying_c (l : Laid) (hf : l.fine) (hg : l.p.good) (G : List Int) (most : Nat) (hmo : most ≤ 100) (hG : G.length = l.p.ws.length) :
  Pure C F.plate_laid_laying [l.dv, .slice false (G.map intDV), .int .i64 most] (.d (.tup [bestD (layS l.p G most l.p.ws.length []), .bool (layS l.p G most l.p.ws.length []).isSome])) [] := by
 refine pure_of_pwp_d mixed rfl ok_plate_laid_laying ?_
 simp only [pc_plate_laid_laying, rs_plate_laid_laying, dv_Laid, allD_p, Option.map_none, cells_f, one_f, RN, qA, qB, qC, qD, qE, qF]
 refine ev_callF (args := [_]) (by kernel_rfl) (cs := [_, _, _, _, _]) ?_
 simp only [List.nil_append, List.cons_append]
 refine sc_strip1 ?_
 refine laying_1_sc l hf hg G most hmo hG _ _ _ [2, 1, 0] (by decide) (by decide) (fun m => ⟨rfl, rfl, rfl⟩) (.slice true []) rfl rfl l.p.ws.length [] [] _ _ (by simp) fun ar' h => ?_
 cases hL : layS l.p G most l.p.ws.length [] with
 | none => simp only [bestD_n, Option.isSome_none, RN, qA, qB, qC, qD, qE, qF]
 | some x => simp only [bestD_s, Option.isSome_some, RN, qA, qB, qC, qD, qE, qF]
end Go.Tel
open Nat renaming reduceBEq → qA, reduceAdd → qB, reduceSub → qC, reduceEqDiff → qD, reduceLT → qE, reduceLeDiff → qF
namespace Go.Tel
open Go.Am
def layMM : List Ms → List Ms → List Ms
 | mm, [] => mm
 | mm, m :: l => layMM (if mm.contains m then mm else mm ++ [m]) l
theorem layMM_contains (x : Ms) : ∀ (l mm : List Ms), (layMM mm l).contains x = (mm.contains x || l.contains x)
 | [], mm => by simp [layMM]
 | m :: l, mm => by
  rw [layMM, layMM_contains x l]
  by_cases h : mm.contains m = true
  ·rw [if_pos h, List.contains_cons]
   by_cases hx : x = m
   ·subst hx; rw [h]; simp
   ·have : (x == m) = false := by simp [hx]
    rw [this, Bool.false_or]
  ·rw [if_neg h, List.contains_cons, List.contains_append, List.contains_cons, List.contains_nil, Bool.or_false, Bool.or_assoc]
def Piece.laid (p : Piece) (gone : List Int) : Laid := ⟨p, layMM [] p.ms, gone⟩
theorem Piece.laid_fine (p : Piece) (gone : List Int) : (p.laid gone).fine := fun m => by rw [Piece.laid, layMM_contains]; rfl
def LayC : Prop := ∀ (p : Piece) (gone : List Int), p.ms.length ≤ 1000 → gone.length ≤ 1000 → Pure C F.plate_lay [p.dv, .slice false (gone.map intDV)] (.d (p.laid gone).dv) []
structure Flt where
 a : Int
 b : Int
 kind : Int
 deriving DecidableEq, Inhabited
def Flt.dv (f : Flt) : DV := .agg [.int .i64 f.a, .int .i64 f.b, .int .i64 f.kind]
theorem dv_Flt {f : Flt} : f.dv = .agg [.int .i64 f.a, .int .i64 f.b, .int .i64 f.kind] := by rw [Flt.dv]
def pairsL (n : Nat) (gone : List Int) : List (Nat × Nat) :=
 (List.range n).flatMap fun (a : Nat) => ((List.range n).drop a).filterMap fun (b : Nat) => if gone.contains (a : Int) || gone.contains (b : Int) then none else some (a, b)
def Piece.fault (p : Piece) (gone : List Int) : Option Flt :=
 (pairsL p.ws.length gone).findSome? fun q => if p.wrong gone q.1 q.2 = 0 then none else some ⟨q.1, q.2, p.wrong gone q.1 q.2⟩
def FaultC : Prop := ∀ (l : Laid), l.fine → l.p.good → l.gone.length ≤ 1000 → Pure C F.plate_laid_fault [l.dv] (.d (.tup [((l.p.fault l.gone).getD default).dv, .bool (l.p.fault l.gone).isSome])) []
section
variable (hlay : LayC) (hfault : FaultC)
def Piece.Fault (p : Piece) : Flt × Int := if p.ok then (match p.fault [] with | some f => (f, 0) | none => (default, 5)) else (default, 2)
include hlay hfault in
set_option maxRecDepth 10000 in
theorem Fault_c (p : Piece) (hc : p.cs.length ≤ 1000) (hw : p.ws.length ≤ 1000) (hm : p.ms.length ≤ 1000) : Pure C F.plate_Fault [p.dv] (.d (.tup [p.Fault.1.dv, .int .i64 p.Fault.2])) [] := by
 refine pure_of_pwp_d mixed rfl ok_plate_Fault ?_
 have hp := isPiece_c p hc hw hm
 have hl := hlay p [] hm (by simp)
 simp only [dv_Piece] at hp hl
 simp only [pc_plate_Fault, rs_plate_Fault, dv_Piece, List.not_mem_nil, RN, qA, qB, qC, qD, qE, qF]
 refine call_d rfl rfl hp ?_
 cases hok : p.ok
 ·simp only [List.not_mem_nil, RN, qA, qB, qC, qD, qE, qF]
  rw [Piece.Fault, if_neg (by rw [hok]; decide)]
  rfl
 ·have hf : Pure C F.plate_laid_fault [(p.laid []).dv] (.d (.tup [((p.fault []).getD default).dv, .bool (p.fault []).isSome])) [] := hfault (p.laid []) (Piece.laid_fine p []) (Piece.ok_good hok) (by simp [Piece.laid])
  simp only [RN, qA, qB, qC, qD, qE, qF]
  refine call_d rfl rfl hl ?_
  refine call_d rfl (by rw [dv_Laid]; rfl) hf ?_
  cases hF : p.fault [] with
  | none =>
   simp only [Option.getD_none, Option.isSome_none, dv_Flt]
   simp only [List.not_mem_nil, RN, qA, qB, qC, qD, qE, qF]
   rw [Piece.Fault, if_pos hok, hF]
   rfl
  | some f =>
   simp only [Option.getD_some, Option.isSome_some, dv_Flt]
   simp only [List.not_mem_nil, RN, qA, qB, qC, qD, qE, qF]
   rw [Piece.Fault, if_pos hok, hF]
include hlay hfault in
set_option maxRecDepth 10000 in
theorem Spares_1_c (p : Piece) (hok : p.ok = true) (gone : List Int) (hg : gone.length ≤ 1000) : Pure C F.plate_Spares_1 [dvL gone, .cptr [.int .i64 p.w, .int .i64 p.h, .int .i64 p.pl, .int .i64 p.ga, .int .i64 p.po, .slice false (p.cs.map Pt.dv), .slice false (p.ws.map Wh.dv), .slice false (p.ms.map Ms.dv)]] (.d (.bool (p.fault gone).isNone)) [] := by
 refine pure_of_pwp_d mixed rfl ok_plate_Spares_1 ?_
 have hl := hlay p gone (by have := Piece.ok_lens hok; omega) hg
 have hf : Pure C F.plate_laid_fault [(p.laid gone).dv] (.d (.tup [((p.fault gone).getD default).dv, .bool (p.fault gone).isSome])) [] := hfault (p.laid gone) (Piece.laid_fine p gone) (Piece.ok_good hok) hg
 simp only [dv_Piece] at hl
 simp only [pc_plate_Spares_1, rs_plate_Spares_1, dv_L, RN, qA, qB, qC, qD, qE, qF]
 refine call_d rfl rfl hl ?_
 refine call_d rfl (by rw [dv_Laid]; rfl) hf ?_
 cases hF : p.fault gone with
 | none =>
  simp only [Option.getD_none, Option.isSome_none, dv_Flt]
  simp only [List.not_mem_nil, Option.isNone_none, RN, qA, qB, qC, qD, qE, qF]
 | some f =>
  simp only [Option.getD_some, Option.isSome_some, dv_Flt]
  simp only [List.not_mem_nil, Option.isNone_some, RN, qA, qB, qC, qD, qE, qF]
def Piece.spares (p : Piece) : Option (List Int) × Int :=
 if p.ok then (bestL shorter (someS (fun gone => (p.fault gone).isNone) p.ws.length p.ws.length []) none, 0) else (none, 2)
include hlay hfault in
set_option maxRecDepth 10000 in
theorem Spares_c (p : Piece) (hc : p.cs.length ≤ 1000) (hw : p.ws.length ≤ 1000) (hm : p.ms.length ≤ 1000) : Pure C F.plate_Spares [p.dv] (.d (.tup [bestD p.spares.1, .int .i64 p.spares.2])) [] := by
 refine pure_of_pwp_d mixed rfl ok_plate_Spares ?_
 have hp := isPiece_c p hc hw hm
 simp only [dv_Piece] at hp
 simp only [pc_plate_Spares, rs_plate_Spares, dv_Piece, RN, qA, qB, qC, qD, qE, qF]
 refine call_d rfl rfl hp ?_
 cases hok : p.ok
 ·simp only [RN, qA, qB, qC, qD, qE, qF]
  rw [Piece.spares, if_neg (by rw [hok]; decide)]
  rfl
 ·have hlw := (Piece.ok_lens hok).2.1
  have hp2 : 2 ^ p.ws.length ≤ 2 ^ 8 := Nat.pow_le_pow_right (by decide) hlw
  have hsl := someS_len (fun gone => (p.fault gone).isNone) p.ws.length p.ws.length []
  simp only [List.length_map, RN, qA, qB, qC, qD, qE, qF]
  refine call_d rfl rfl (some_c p.ws.length (by omega) (fn := F.plate_Spares_1) (caps := _) (s := fun gone => (p.fault gone).isNone) (by kernel_rfl) fun l h1 h2 => ?_) ?_
  ·exact Spares_1_c hlay hfault p hok l (by omega)
  refine call_d rfl rfl (best_c (someS (fun gone => (p.fault gone).isNone) p.ws.length p.ws.length []) (by omega) (fn := F.plate_shorter) (caps := []) (s := shorter) (by kernel_rfl) fun x hx y hy => ?_) ?_
  ·have h1 := (someS_all hx).1
   have h2 := (someS_all hy).1
   exact shorter_c x y (by simp at h1; omega) (by simp at h2; omega)
  rw [Piece.spares, if_pos hok]
  cases bestL shorter (someS (fun gone => (p.fault gone).isNone) p.ws.length p.ws.length []) none
  ·simp only [bestD_n, RN, qA, qB, qC, qD, qE, qF]
  ·simp only [bestD_s, RN, qA, qB, qC, qD, qE, qF]
end
end Go.Tel
