/-
  Part 13 of the proof of a law of plates: an abstract machine over the model, contracts of functions, plain laws.
  Conditions: none.
-/
import Derived.Test.YticjmjdcggomgaaGreatDoorM12
import Derived.IntWalk
set_option linter.all false
namespace Go.Am
open Go.ChangeShapes Go.WideShapes Go.RowKit
def HasV (T : Ty) (d : DV) : Prop := Has T d.cells ∧ Shp T d
def HasAll : List Ty → List DV → Prop
 | [], [] => True
 | T :: Ts, d :: ds => HasV T d ∧ HasAll Ts ds
 | _, _ => False
def okTyAll (P : Program) : List Ty → List TypeId → Bool
 | [], [] => true
 | T :: Ts, t :: ts => okTy P T t && okTyAll P Ts ts
 | _, _ => false
theorem has_one {T : Ty} {ds : List DV} (h : Has T ds) (hs : T.isStruct = false) : ∃ x, ds = [x] ∧ x.cells = [x] := by
 cases h with
 | nil => cases hs
 | cons => cases hs
 | _ => exact ⟨_, rfl, rfl⟩
section
variable {H : Type} {enc : TypeId × Value → H} {P : Program} {w : World} {base : Nat} {spare : Nat → Bool} {held : Bool} {O : Nat → Prop}
theorem read_val (hO : ∀ b, O b → ∀ c T fz, w.heap[b]? = some (.cells c T fz) → ∀ (i : Nat) (n : Int), c[i]? ≠ some (.int .i64 n)) {T : Ty} {t : TypeId} {v : Value} {d : DataW H} {ps : List MemPlace} {r : Reach} {b0 : Nat}
  (hok : okTy P T t = true) (hval : Value.okWide P w r b0 t v) (h : DataW.Trod enc P w base spare held t v d ps) : ∃ x, HasV T x ∧ RepD w O v x := by
 obtain ⟨fuel, hf⟩ := h
 obtain ⟨ds, h1, h2⟩ := read_ty hO T fuel t _ _ hok hf
 have one : T.isStruct = false → (∀ cs, v ≠ .agg cs) → ∃ x, HasV T x ∧ RepD w O v x := by
  intro hs hv
  obtain ⟨x, rfl, hx⟩ := has_one h1 hs
  have hc : v.cells = #[v] := by cases v <;> first | rfl | (exact absurd rfl (hv _))
  rw [hc] at h2
  cases h2 with
  | cons g1 _ =>
   exact ⟨x, ⟨by rw [hx]; exact h1, ⟨fun hh => (by rw [hs] at hh; cases hh), fun _ => hx⟩⟩, g1⟩
 cases T with
 | int k =>
  simp only [okTy, Bool.and_eq_true] at hok
  split at hok
  ·rename_i k' hk
   obtain ⟨n, rfl⟩ := okWide_int hk hval
   exact one rfl fun cs hh => by cases hh
  ·cases hok.1
 | bool =>
  simp only [okTy, Bool.and_eq_true] at hok
  split at hok
  ·rename_i hk
   obtain ⟨n, rfl⟩ := okWide_bool hk hval
   exact one rfl fun cs hh => by cases hh
  ·cases hok.1
 | str =>
  simp only [okTy, Bool.and_eq_true] at hok
  split at hok
  ·rename_i hk
   obtain ⟨n, rfl⟩ := okWide_string hk hval
   exact one rfl fun cs hh => by cases hh
  ·cases hok.1
 | slice e =>
  simp only [okTy, Bool.and_eq_true] at hok
  split at hok
  ·rename_i u hk
   obtain ⟨a, len, cap, rfl⟩ := okWide_slice hk hval
   exact one rfl fun cs hh => by cases hh
  ·cases hok.1
 | struct fs =>
  simp only [okTy, Bool.and_eq_true] at hok
  split at hok
  ·rename_i gs hk
   obtain ⟨cs, rfl, _⟩ := okWide_struct hk hval
   exact ⟨.agg ds, ⟨h1, ⟨fun _ => ⟨ds, rfl⟩, fun hh => (by cases hh)⟩⟩, .agg h2⟩
  ·cases hok.1
theorem read_all (hO : ∀ b, O b → ∀ c T fz, w.heap[b]? = some (.cells c T fz) → ∀ (i : Nat) (n : Int), c[i]? ≠ some (.int .i64 n)) {r : Reach} {b0 : Nat} : ∀ {Ts : List Ty} {ts : List TypeId} {vs : List Value} {ds : List (DataW H)} {ps : List MemPlace},
  okTyAll P Ts ts = true → (∀ (j : Nat) t v, ts[j]? = some t → vs[j]? = some v → Value.okWide P w r b0 t v) → DataW.TrodAll enc P w base spare held ts vs ds ps → ∃ xs, HasAll Ts xs ∧ RepL w O vs xs
 | [], [], [], [], _, _, _, _ => ⟨[], trivial, .nil⟩
 | T :: Ts, t :: ts, v :: vs, d :: ds, ps, hok, hv, h => by
  simp only [okTyAll, Bool.and_eq_true] at hok
  obtain ⟨p, q, h1, h2, _⟩ := h
  obtain ⟨x, g1, g2⟩ := read_val hO hok.1 (hv 0 t v rfl rfl) h1
  obtain ⟨xs, g3, g4⟩ := read_all hO hok.2 (fun j t' v' ht hv' => hv (j + 1) t' v' (by simpa using ht) (by simpa using hv')) h2
  exact ⟨x :: xs, ⟨g1, g3⟩, .cons g2 g4⟩
 | [], _ :: _, _, _, _, hok, _, _ => by simp [okTyAll] at hok
 | _ :: _, [], _, _, _, hok, _, _ => by simp [okTyAll] at hok
 | [], [], _ :: _, _, _, _, _, h => by cases h
 | [], [], [], _ :: _, _, _, _, h => by cases h
 | _ :: _, _ :: _, [], _, _, _, _, h => by cases h
 | _ :: _, _ :: _, _ :: _, [], _, _, _, h => by cases h
theorem later_below {w' : World} (h : Later w w') : Below w.heap.size w w' := ⟨h.os, h.tape, h.output, h.size, h.keep⟩
theorem law_calls {C : Ctx} {f : FuncId} {Ts : List Ty} {ts : List TypeId} {args : Array Value} {ds : List (DataW H)} {ps : List MemPlace} {r : Reach} {b0 : Nat}
  (hP : C.P = P) (hG : C.G w) (hlow : ∀ b, C.low b → b < w.heap.size ∧ ∀ c T fz, w.heap[b]? = some (.cells c T fz) → ∀ (i : Nat) (n : Int), c[i]? ≠ some (.int .i64 n))
  (hok : okTyAll P Ts ts = true) (hv : ∀ (j : Nat) t v, ts[j]? = some t → args.toList[j]? = some v → Value.okWide P w r b0 t v) (h : DataW.TrodAll enc P w base spare held ts args.toList ds ps)
  (hlaw : ∀ xs, HasAll Ts xs → Pure C f xs (.d (.bool true)) []) : Calls P f args w fun e w' => e = .returned (.bool true) ∧ Below w.heap.size w w' := by
 obtain ⟨xs, h1, h2⟩ := read_all (O := C.low) (fun b hb => (hlow b hb).2) hok hv h
 have := hlaw xs h1 C.low w args.toList hG (fun b hb => hb) (fun b hb => (hlow b hb).1) h2
 rw [hP, Array.toArray_toList] at this
 refine Calls.mono this fun e w' he => ?_
 obtain ⟨v, E', rfl, hS, hF, hr⟩ := he
 have hvb := hr.toD.bool_inv
 subst hvb
 exact ⟨rfl, later_below hF.laterOf⟩
theorem trodAll_below {w' : World} (hl : laidOutB P = true) (hb : Below w.heap.size w w') : ∀ {ts : List TypeId} {vs : List Value} {ds : List (DataW H)} {ps : List MemPlace}, (∀ t ∈ ts, P.readableRec t = true ∧ t < P.types.size) →
  DataW.TrodAll enc P w 0 (fun _ => true) true ts vs ds ps → (∀ x ∈ ps, x.block < w.heap.size) → DataW.TrodAll enc P w' 0 (fun b => decide (b < w.heap.size)) true ts vs ds ps
 | [], [], [], _, _, h, _ => h
 | t :: ts, v :: vs, d :: ds, ps, ht, h, hlt => by
  obtain ⟨p, q, h1, h2, rfl⟩ := h
  obtain ⟨a, b⟩ := ht t (by simp)
  exact ⟨p, q, Below.trod hl a b h1 hb (fun x hx => hlt x (by simp [hx])), trodAll_below hl hb (fun t' ht' => ht t' (by simp [ht'])) h2 (fun x hx => hlt x (by simp [hx])), rfl⟩
 | [], _ :: _, _, _, _, h, _ => by cases h
 | [], [], _ :: _, _, _, h, _ => by cases h
 | _ :: _, [], _, _, _, h, _ => by cases h
 | _ :: _, _ :: _, [], _, _, h, _ => by cases h
theorem law_post {f : Func} {s : ChangeSpec} {apart fresh handsOn : Bool} {w' : World} {args : Array Value} {ds : List (DataW H)} {before : List MemPlace} {tb : TypeId} (hl : laidOutB P = true) (hvars : s.vars = [])
  (hW : DataW.Whole enc P f.params.toList s.vars apart w args.toList ds [] before) (hres : f.resultTypes = #[tb]) (htb : P.underlying tb = some .bool) (hts : ∀ t ∈ f.params.toList, P.readableRec t = true ∧ t < P.types.size)
  (hfn : s.fn H (ds ++ []) = { results := [.lit (.bool true)], args := ds }) (hb : Below w.heap.size w w') : s.post enc P f apart fresh handsOn false w args (.bool true) w' := by
 have hW' := hW
 obtain ⟨p, q, hA, hV, rfl, _, _⟩ := hW
 have hq : q = [] := by rw [hvars] at hV; exact hV
 subst hq
 refine ⟨ds, [], p ++ [], [], p, [], hW', ?_, ?_, ?_, hb.frame _, fun h => by cases h⟩
 ·rw [hfn, hres]
  exact trodAll_mk1 (shut_bool htb true)
 ·rw [hfn]
  exact trodAll_below hl hb hts hA fun x hx => hW'.lt x (by simp [hx])
 ·rw [hfn, hvars]; rfl
end
end Go.Am
namespace Go.Am
theorem look_all {n m : Nat} : ∀ {env : List (Nat × PV)}, (env.all fun p => p.2.upto n m) = true → ∀ t, (look env t).upto n m = true
 | [], _, t => by simp [look, PV.upto]
 | (k, v) :: l, h, t => by
  simp only [List.all_cons, Bool.and_eq_true] at h
  simp only [look]
  cases hk : (k == t) with
  | true => simpa using h.1
  | false => simpa using look_all h.2 t
theorem Weak.take {nb na n m : Nat} {env : List (Nat × PV)} {bs : List (Option (List PV))} {fz : List Nat} {as : List (Option Arr)} (h1 : nb ≤ n) (h2 : na ≤ m) (h3 : (env.all fun p => p.2.upto n m) = true)
  (h4 : ((bs.take n).all fun c => (c.getD []).all fun p => p.upto n m) = true) : Weak nb na ⟨env, ⟨bs, fz, as⟩⟩ ⟨env, ⟨bs.take n, fz.filter (fun b => decide (b < n)), as.take m⟩⟩ := by
 refine .inr ⟨n, m, h1, h2, rfl, fun t => .inr ⟨rfl, look_all h3 t⟩, fun cs hcs c hc => ?_⟩
 simp only [List.all_eq_true] at h4
 exact h4 cs hcs c hc
theorem Weak.same {nb na : Nat} {env : List (Nat × PV)} {bs : List (Option (List PV))} {fz : List Nat} {as : List (Option Arr)} (h1 : nb ≤ bs.length) (h2 : na ≤ as.length) (h3 : (env.all fun p => p.2.upto bs.length as.length) = true)
  (h4 : (bs.all fun c => (c.getD []).all fun p => p.upto bs.length as.length) = true) : Weak nb na ⟨env, ⟨bs, fz, as⟩⟩ ⟨env, ⟨bs, fz.filter (fun b => decide (b < bs.length)), as⟩⟩ := by
 have := Weak.take (fz := fz) (as := as) h1 h2 h3 (by rw [List.take_length]; exact h4)
 simpa using this
theorem round_end {C : Ctx} {nb na n n' : Nat} {I : Nat → St → Prop} {Q : Ex → St → Prop} {s s' : St} (h1 : n' < n) (h2 : Weak nb na s s') (h3 : I n' s') : loopQ nb na I n Q .normal s := ⟨n', s', h1, h2, h3⟩
end Go.Am
namespace Go.Am
section
variable {C : Ctx} {base : Nat} {M : Mem} {K : PV → Mem → Prop} {KP : DV → Mem → Prop}
theorem ev_mkSl0 {sz : Nat} : runOp C base (.mkSl sz [] []) [] M K KP = K (.d (.slice true [])) M := by
 have := frz_d (M := M) (ds := [])
 simp only [List.map_nil] at this
 simp only [runOp, datumL, List.map_nil, fillS, this]
theorem ev_mkSl1 {sz : Nat} {z x : DV} : runOp C base (.mkSl sz [z] [0]) [.d x] M K KP = (x.strip.cells.length = sz ∧ K (.d (.slice true [x.strip])) M) := by
 have := frz_d (M := M) (ds := [x])
 simp only [List.map_cons, List.map_nil] at this
 simp only [runOp, datumL, datum, List.map_cons, List.map_nil, fillS, this, List.length_singleton, Nat.zero_lt_one, and_true]
 by_cases h : x.strip.cells.length = sz
 ·simp [h]
 ·simp [h]
theorem mkRow_m {bs : List (Option (List PV))} {fz : List Nat} {as : List (Option Arr)} {k s : Nat} {A : Arr} (h : as[k]? = some (some A)) : mkRow ⟨bs, fz, as⟩ (k, s) = ⟨A.sz, A.elems.drop s, 0, A.st⟩ := by simp only [mkRow, h]
theorem sel_one {bs : List (Option (List PV))} {fz : List Nat} {as : List (Option Arr)} {k ver s : Nat} {A : Arr} (h : as[k]? = some (some A)) (hv : A.ver = ver) (hs : s ≤ A.elems.length) {A' : Arr} (hA : A' = ⟨A.sz, A.elems.drop s, 0, A.st⟩) :
  ∃ L, okSel ⟨bs, fz, as⟩ L ∧ ren ⟨bs, fz, as⟩ L (.tsl k ver s) = .tsl 0 0 0 ∧ L.map (mkRow ⟨bs, fz, as⟩) = [A'] := by
 refine ⟨[(k, s)], ⟨fun q hq => ?_, by simp⟩, ?_, ?_⟩
 ·simp only [List.mem_singleton] at hq
  subst hq
  simp only [liveRow, h]
  simpa using hs
 ·simp [ren, ren0, renAt, Mem.row, h, hv]
 ·simp only [List.map_cons, List.map_nil, mkRow_m h, hA]
end
end Go.Am
namespace Go.Tel
open Go.Am
abbrev w64 (n : Int) : Int := IntKind.i64.wrap n
theorem w64_in {n : Int} (h : -9223372036854775808 ≤ n ∧ n ≤ 9223372036854775807) : IntKind.i64.wrap n = n := Go.IntWalk.i64_in _ (by omega)
structure Pt where
 x : Int
 y : Int
 deriving DecidableEq, Inhabited
structure Wh where
 centre : Int
 sleeve : Int
 layer : Int
 teeth : Int
 deriving DecidableEq, Inhabited
structure Ms where
 a : Int
 b : Int
 deriving DecidableEq, Inhabited
structure Tn where
 num : Int
 den : Int
 deriving DecidableEq, Inhabited
structure Piece where
 w : Int
 h : Int
 pl : Int
 ga : Int
 po : Int
 cs : List Pt
 ws : List Wh
 ms : List Ms
 deriving DecidableEq, Inhabited
def intDV (n : Int) : DV := .int .i64 n
def Pt.dv (p : Pt) : DV := .agg [.int .i64 p.x, .int .i64 p.y]
def Wh.dv (p : Wh) : DV := .agg [.int .i64 p.centre, .int .i64 p.sleeve, .int .i64 p.layer, .int .i64 p.teeth]
def Ms.dv (p : Ms) : DV := .agg [.int .i64 p.a, .int .i64 p.b]
def Tn.dv (p : Tn) : DV := .agg [.int .i64 p.num, .int .i64 p.den]
def Piece.dv (p : Piece) : DV := .agg [.int .i64 p.w, .int .i64 p.h, .int .i64 p.pl, .int .i64 p.ga, .int .i64 p.po, .slice false (p.cs.map Pt.dv), .slice false (p.ws.map Wh.dv), .slice false (p.ms.map Ms.dv)]
theorem dv_int {n : Int} : intDV n = .int .i64 n := by rw [intDV]
theorem dv_Pt {p : Pt} : p.dv = .agg [.int .i64 p.x, .int .i64 p.y] := by rw [Pt.dv]
theorem dv_Wh {p : Wh} : p.dv = .agg [.int .i64 p.centre, .int .i64 p.sleeve, .int .i64 p.layer, .int .i64 p.teeth] := by rw [Wh.dv]
theorem dv_Ms {p : Ms} : p.dv = .agg [.int .i64 p.a, .int .i64 p.b] := by rw [Ms.dv]
theorem dv_Tn {p : Tn} : p.dv = .agg [.int .i64 p.num, .int .i64 p.den] := by rw [Tn.dv]
theorem dv_Piece {p : Piece} : p.dv = .agg [.int .i64 p.w, .int .i64 p.h, .int .i64 p.pl, .int .i64 p.ga, .int .i64 p.po, .slice false (p.cs.map Pt.dv), .slice false (p.ws.map Wh.dv), .slice false (p.ms.map Ms.dv)] := by rw [Piece.dv]
structure Laid where
 p : Piece
 mm : List Ms
 gone : List Int
 deriving Inhabited
def Laid.dv (l : Laid) : DV :=
 .agg [.int .i64 l.p.w, .int .i64 l.p.h, .int .i64 l.p.pl, .int .i64 l.p.ga, .int .i64 l.p.po, .slice false (l.p.cs.map Pt.dv), .slice false (l.p.ws.map Wh.dv), .slice false (l.p.ms.map Ms.dv),
  .map (some (l.mm.map fun m => (m.dv, .bool true))), .slice false (l.gone.map intDV)]
theorem dv_Laid {l : Laid} : l.dv = .agg [.int .i64 l.p.w, .int .i64 l.p.h, .int .i64 l.p.pl, .int .i64 l.p.ga, .int .i64 l.p.po, .slice false (l.p.cs.map Pt.dv), .slice false (l.p.ws.map Wh.dv), .slice false (l.p.ms.map Ms.dv),
  .map (some (l.mm.map fun m => (m.dv, .bool true))), .slice false (l.gone.map intDV)] := by rw [Laid.dv]
theorem getD_map {α : Type} [Inhabited α] {f : α → DV} {l : List α} {i : Nat} (h : i < l.length) : (l.map f).getD i default = f (l.getD i default) := by
 rw [List.getD_eq_getElem?_getD, List.getD_eq_getElem?_getD, List.getElem?_map, List.getElem?_eq_getElem h]; rfl
theorem drop_cons {α : Type} [Inhabited α] {l : List α} {i : Nat} (h : i < l.length) : l.drop i = l.getD i default :: l.drop (i + 1) := by
 rw [List.drop_eq_getElem_cons h]; simp [List.getD, h]
def inR (n l h : Int) : Bool := decide (n ≥ l) && decide (n ≤ h)
def ptsOk (w h : Int) : List Pt → List Pt → Bool
 | _, [] => true
 | pre, c :: cs => inR c.x 0 w && inR c.y 0 h && !pre.contains c && ptsOk w h (pre ++ [c]) cs
def mssOk (n : Int) : List Ms → List Ms → Bool
 | _, [] => true
 | pre, m :: ms => inR m.a 0 (n - 1) && inR m.b 0 (n - 1) && !decide (m.a ≥ m.b) && !pre.contains m && mssOk n (pre ++ [m]) ms
def whOk (n : Int) (w : Wh) : Bool := inR w.centre 0 (n - 1) && inR w.sleeve 0 2 && inR w.layer 0 5 && inR w.teeth 4 50
def Piece.headOk (p : Piece) : Bool := inR p.w 1 120 && inR p.h 1 120 && inR p.pl 0 4 && inR p.ga 0 4 && inR p.po 0 3
def Piece.lensOk (p : Piece) : Bool := inR p.cs.length 1 6 && !decide ((p.ws.length : Int) > 8) && !decide ((p.ms.length : Int) > 10)
def Piece.ok (p : Piece) : Bool := p.headOk && p.lensOk && ptsOk p.w p.h [] p.cs && mssOk p.ws.length [] p.ms && p.ws.all (whOk p.cs.length)
def Piece.wh (p : Piece) (a : Int) : Wh := p.ws.getD a.toNat default
def Piece.pt (p : Piece) (a : Int) : Pt := p.cs.getD (p.wh a).centre.toNat default
def sq (n : Int) : Int := n * n
def Piece.mesh (p : Piece) (a b : Int) : Bool := p.ms.contains ⟨min a b, max a b⟩
def Piece.far (p : Piece) (a b : Int) : Int := sq ((p.pt a).x - (p.pt b).x) + sq ((p.pt a).y - (p.pt b).y)
def Piece.sum (p : Piece) (a b : Int) : Int := (p.wh a).teeth + (p.wh b).teeth
def Piece.centred (p : Piece) (a b : Int) : Bool := (p.wh a).centre == (p.wh b).centre
def Piece.level (p : Piece) (a b : Int) : Bool := (p.wh a).layer == (p.wh b).layer
def Piece.sleeved (p : Piece) (a b : Int) : Bool := p.centred a b && (p.wh a).sleeve == (p.wh b).sleeve
def Piece.apart (p : Piece) (a b : Int) : Bool :=
 p.mesh a b && (!p.level a b || p.centred a b || decide (p.far a b < sq (p.sum a b)) || decide (p.far a b > sq (p.sum a b + p.pl)))
def Piece.touch (p : Piece) (a b : Int) : Bool := !p.mesh a b && p.level a b && !p.centred a b && decide (p.far a b < sq (p.sum a b + p.ga))
def Piece.same (p : Piece) (a b : Int) : Bool := p.centred a b && p.level a b
def Piece.bounds (p : Piece) (gone : List Int) (o : Int) : Nat → List Wh → Int × Int → Int × Int
 | _, [], r => r
 | i, w :: ws, r => Piece.bounds p gone o (i + 1) ws (if p.sleeved i o && !gone.contains (i : Int) then (min r.1 w.layer, max r.2 w.layer) else r)
def Piece.nested (p : Piece) (gone : List Int) (a b : Int) : Bool :=
 if !p.centred a b || p.sleeved a b || p.level a b then false
 else
  let i := if (p.wh a).sleeve > (p.wh b).sleeve then b else a
  let o := if (p.wh a).sleeve > (p.wh b).sleeve then a else b
  let r := p.bounds gone o 0 p.ws ((p.wh o).layer, (p.wh o).layer)
  inR (p.wh i).layer (r.1 + 1) (r.2 - 1)
def Piece.post (p : Piece) (a b : Int) : Bool := decide ((p.wh a).layer ≤ (p.wh b).layer) && decide (p.far a b < sq ((p.wh a).teeth + p.po))
def Piece.posted (p : Piece) (a b : Int) : Bool := !p.centred a b && (p.post a b || p.post b a)
def Piece.edged (p : Piece) (a : Int) : Bool :=
 decide ((p.pt a).x < (p.wh a).teeth) || decide ((p.pt a).y < (p.wh a).teeth) || decide ((p.pt a).x + (p.wh a).teeth > p.w) || decide ((p.pt a).y + (p.wh a).teeth > p.h)
def Piece.wrong (p : Piece) (gone : List Int) (a b : Int) : Int :=
 if a = b then (if p.edged a then 1 else 0)
 else if p.apart a b then 2 else if p.touch a b then 3 else if p.same a b then 4 else if p.nested gone a b then 5 else if p.posted a b then 6 else 0
end Go.Tel
namespace Go.Am
section
variable {C : Ctx} {base nb na : Nat} {K : St → Prop} {KP : DV → Mem → Prop} {Q : Ex → St → Prop} {env : List (Nat × PV)} {m : Mem}
theorem guard_split {d : Option Nat} {op : POp} {args : List Opd} {fl t : Nat} {w b : Bool} (hb : look env t = .d (.bool b)) (h1 : b = true → runPO C base ⟨d, op, args, some (t, w), fl⟩ K KP ⟨env, m⟩) (h0 : b = false → runPO C base ⟨d, op, args, some (t, w), fl⟩ K KP ⟨env, m⟩) :
  runPO C base ⟨d, op, args, some (t, w), fl⟩ K KP ⟨env, m⟩ := by cases b; exact h0 rfl; exact h1 rfl
theorem cond_split {t : Nat} {x y : PCode} {b : Bool} (hb : look env t = .d (.bool b)) (h1 : b = true → pwp C nb na (.cond (.t t) x y) Q ⟨env, m⟩) (h0 : b = false → pwp C nb na (.cond (.t t) x y) Q ⟨env, m⟩) :
  pwp C nb na (.cond (.t t) x y) Q ⟨env, m⟩ := by cases b; exact h0 rfl; exact h1 rfl
variable {s : St} {bs : List (Option (List PV))} {fz : List Nat} {as : List (Option Arr)}
def upJ {α : Type} (len : Nat) (E : Nat → α → St) (P : Nat → α → Prop) : Nat → St → Prop := fun n s => ∃ i a, i ≤ len ∧ n = len - i ∧ s = E i a ∧ P i a
theorem pwp_range {b : PCode} {α : Type} (len : Nat) (E : Nat → α → St) (P : Nat → α → Prop) (i0 : Nat) (a0 : α) (hi : i0 ≤ len) (hs : s = E i0 a0) (h0 : P i0 a0)
  (hr : ∀ i a, i < len → P i a → pwp C nb na b (loopQ nb na (upJ len E P) (len - i) Q) (E i a))
  (he : ∀ a, P len a → pwp C nb na b (loopQ nb na (upJ len E P) 0 Q) (E len a)) : pwp C nb na (.loop b) Q s := by
 refine pwp_loop (upJ len E P) (len - i0) ⟨i0, a0, hi, rfl, hs, h0⟩ ?_
 rintro n s ⟨i, a, hi, rfl, rfl, hP⟩
 by_cases h : i < len
 ·exact hr i a h hP
 ·obtain rfl : i = len := by omega
  have := he a hP
  rwa [← Nat.sub_self i] at this
theorem up_same {α : Type} {len i : Nat} {E : Nat → α → St} {P : Nat → α → Prop} (a' : α) (hi : i < len) (hs : (⟨env, ⟨bs, fz.filter (fun b => decide (b < bs.length)), as⟩⟩ : St) = E (i + 1) a') (hP : P (i + 1) a')
  (h1 : nb ≤ bs.length) (h2 : na ≤ as.length) (h3 : (env.all fun p => p.2.upto bs.length as.length) = true) (h4 : (bs.all fun c => (c.getD []).all fun p => p.upto bs.length as.length) = true) :
  ∃ n' s'', n' < len - i ∧ Weak nb na ⟨env, ⟨bs, fz, as⟩⟩ s'' ∧ upJ len E P n' s'' := ⟨len - (i + 1), _, by omega, Weak.same h1 h2 h3 h4, i + 1, a', by omega, rfl, hs, hP⟩
theorem up_take {α : Type} {len i : Nat} {E : Nat → α → St} {P : Nat → α → Prop} (n m : Nat) (a' : α) (hi : i < len) (hs : (⟨env, ⟨bs.take n, fz.filter (fun b => decide (b < n)), as.take m⟩⟩ : St) = E (i + 1) a') (hP : P (i + 1) a')
  (h1 : nb ≤ n) (h2 : na ≤ m) (h3 : (env.all fun p => p.2.upto n m) = true) (h4 : ((bs.take n).all fun c => (c.getD []).all fun p => p.upto n m) = true) :
  ∃ n' s'', n' < len - i ∧ Weak nb na ⟨env, ⟨bs, fz, as⟩⟩ s'' ∧ upJ len E P n' s'' := ⟨len - (i + 1), _, by omega, Weak.take h1 h2 h3 h4, i + 1, a', by omega, rfl, hs, hP⟩
def whJ {α : Type} (E : α → St) (P : α → Prop) (μ : α → Nat) : Nat → St → Prop := fun n s => ∃ a, n = μ a ∧ s = E a ∧ P a
theorem pwp_while {b : PCode} {α : Type} (E : α → St) (P : α → Prop) (μ : α → Nat) (a0 : α) (hs : s = E a0) (h0 : P a0)
  (hr : ∀ a, P a → pwp C nb na b (loopQ nb na (whJ E P μ) (μ a) Q) (E a)) : pwp C nb na (.loop b) Q s := by
 refine pwp_loop (whJ E P μ) (μ a0) ⟨a0, rfl, hs, h0⟩ ?_
 rintro n s ⟨a, rfl, rfl, hP⟩
 exact hr a hP
theorem wh_same {α : Type} {a : α} {E : α → St} {P : α → Prop} {μ : α → Nat} (a' : α) (hn : μ a' < μ a) (hs : (⟨env, ⟨bs, fz.filter (fun b => decide (b < bs.length)), as⟩⟩ : St) = E a') (hP : P a')
  (h1 : nb ≤ bs.length) (h2 : na ≤ as.length) (h3 : (env.all fun p => p.2.upto bs.length as.length) = true) (h4 : (bs.all fun c => (c.getD []).all fun p => p.upto bs.length as.length) = true) :
  ∃ n' s'', n' < μ a ∧ Weak nb na ⟨env, ⟨bs, fz, as⟩⟩ s'' ∧ whJ E P μ n' s'' := ⟨μ a', _, hn, Weak.same h1 h2 h3 h4, a', rfl, hs, hP⟩
theorem wh_take {α : Type} {a : α} {E : α → St} {P : α → Prop} {μ : α → Nat} (n m : Nat) (a' : α) (hn : μ a' < μ a) (hs : (⟨env, ⟨bs.take n, fz.filter (fun b => decide (b < n)), as.take m⟩⟩ : St) = E a') (hP : P a')
  (h1 : nb ≤ n) (h2 : na ≤ m) (h3 : (env.all fun p => p.2.upto n m) = true) (h4 : ((bs.take n).all fun c => (c.getD []).all fun p => p.upto n m) = true) :
  ∃ n' s'', n' < μ a ∧ Weak nb na ⟨env, ⟨bs, fz, as⟩⟩ s'' ∧ whJ E P μ n' s'' := ⟨μ a', _, hn, Weak.take h1 h2 h3 h4, a', rfl, hs, hP⟩
def optK {α : Type} (o : Option α) (k : α → Prop) : Prop := match o with | some x => k x | none => False
theorem optK_some {α : Type} {x : α} {k : α → Prop} : optK (some x) k = k x := rfl
def aggO (o : Option (List DV)) (cs : List PV) : PV := match o with | some ds => .d (.agg ds) | none => .agg cs
def tupO (o : Option (List DV)) (cs : List PV) : PV := match o with | some ds => .d (.tup ds) | none => .tup cs
theorem mkAgg_o {cs : List PV} : mkAgg cs = aggO (allD cs) cs := rfl
theorem mkTup_o {cs : List PV} : mkTup cs = tupO (allD cs) cs := rfl
theorem aggO_some {ds : List DV} {cs : List PV} : aggO (some ds) cs = .d (.agg ds) := rfl
theorem tupO_some {ds : List DV} {cs : List PV} : tupO (some ds) cs = .d (.tup ds) := rfl
section
variable {M : Mem} {L : PV → Mem → Prop}
theorem ev_buildK {zs : List DV} {ps : List (Nat × Nat)} {args : List PV} : runOp C base (.build zs ps) args M L KP = optK (fillC (zs.map .d) ps args) (fun cs => L (mkAgg cs) M) := by
 rw [ev_build]; cases fillC (zs.map .d) ps args <;> rfl
theorem fillC_nil {cs : List PV} : fillC cs [] [] = some cs := rfl
theorem fillC_d {cs : List PV} {off n : Nat} {ps : List (Nat × Nat)} {x : DV} {vs : List PV} : fillC cs ((off, n) :: ps) (.d x :: vs) = bif (PV.cells (.d x)).length == n && decide (off + n ≤ cs.length) then fillC (splice cs off (PV.cells (.d x))) ps vs else none := by
 simp only [fillC, PV.isDead, true_and]
 by_cases h1 : (PV.cells (.d x)).length = n
 ·by_cases h2 : off + n ≤ cs.length
  ·rw [if_pos ⟨h1, h2⟩]; simp [h1, h2]
  ·rw [if_neg (fun h => h2 h.2)]; simp [h1, h2]
 ·rw [if_neg (fun h => h1 h.1)]
  have : ((PV.cells (.d x)).length == n) = false := by simpa using h1
  rw [this]; rfl
theorem ev_extK {i : Nat} {vs : List DV} : runOp C base (.ext i) [.d (.tup vs)] M L KP = optK vs[i]? (fun v => L (.d v) M) := by
 simp only [runOp]; cases vs[i]? <;> rfl
end
theorem pure_of_pwp_f {C : Ctx} (hm : C.P.follows .mixedOrders = true) {f : FuncId} {ds : List DV} {x : DV} {pc : PCode} {rs : List PRes} {nargs : Nat} (hn : (ds.map PV.d).length = nargs) (hc : chkFn C.P f nargs pc rs = true)
  (h : pwp C 0 0 pc (endQ rs (fun p M => datum M p = some x) (fun _ _ => False)) ⟨envOf 0 (ds.map .d), noMem⟩) : Pure C f ds (.d x) [] := by
 have hsc : SC C f (ds.map .d) noMem (fun p M => datum M p = some x) (fun _ _ => False) := sc_of_pwp hm hn hc h
 intro X w vals hG hl hx hr
 refine (hsc X w ⟨[], []⟩ vals (sim_none hG hl hx) (RepP.ofD (hr.weaken away_none))).mono fun e w' he => ?_
 cases e with
 | returned v =>
  obtain ⟨p, M', E', hd, h2, h3, h4⟩ := he
  have hz : okSel M' [] := ⟨fun q hq => (by cases hq), List.nodup_nil⟩
  exact ⟨v, _, rfl, sim_sel h2 hz, from_sel h3 hz, .d ((datum_frz (ps := [p]) h2 h4 hd (by simp)).weaken fun b hb => .inl (away_none b hb))⟩
 | panicked c =>
  obtain ⟨v, d, M', E', _, hh, _⟩ := he
  exact hh.elim
 | outgrown => exact he.elim
theorem datum_d {M : Mem} {x : DV} : datum M (.d x) = some x := rfl
theorem datum_tup {M : Mem} {cs : List PV} : datum M (.tup cs) = (datum0L M cs).map .tup := rfl
theorem datum_tsl {bs : List (Option (List PV))} {fz : List Nat} {as : List (Option Arr)} {k ver skip : Nat} {A : Arr} (h : as[k]? = some (some A)) (hv : A.ver = ver) : datum ⟨bs, fz, as⟩ (.tsl k ver skip) = some (.slice false (A.elems.drop skip)) := by
 simp [datum, row_m, h, hv]
theorem datum0_tsl {bs : List (Option (List PV))} {fz : List Nat} {as : List (Option Arr)} {k ver skip : Nat} {A : Arr} (h : as[k]? = some (some A)) (hv : A.ver = ver) : datum0 ⟨bs, fz, as⟩ (.tsl k ver skip) = some (.slice false (A.elems.drop skip)) := by
 simp [datum0, row_m, h, hv]
theorem datum0L_nil {M : Mem} : datum0L M [] = some [] := rfl
theorem datum0L_cons {M : Mem} {c : PV} {cs : List PV} {x : DV} {xs : List DV} (h1 : datum0 M c = some x) (h2 : datum0L M cs = some xs) : datum0L M (c :: cs) = some (x :: xs) := by simp only [datum0L, h1, h2]
theorem datum0_d {M : Mem} {x : DV} : datum0 M (.d x) = some x := rfl
theorem cells_dfunc {f : Fn} {a b : List DV} : PV.cells (.d (.func f a b)) = [.d (.func f a b)] := rfl
theorem isAgg_d {cs : List DV} : PV.isAgg (.d (.agg cs)) = true := rfl
theorem rng {i len : Nat} (h : i < len) (hl : len ≤ 1000000) : (i : Int) < (len : Int) ∧ (0 : Int) ≤ (i : Int) ∧ IntKind.i64.wrap ((i : Int) + 1) = ((i + 1 : Nat) : Int) := by
 refine ⟨by omega, by omega, ?_⟩
 rw [Go.IntWalk.i64_in _ (by omega)]; omega
end
end Go.Am
namespace Go.Am
theorem rn_env0 {k : Nat} : envOf k [] = [] := by rw [envOf]
theorem rn_env1 {k : Nat} {v : PV} {vs : List PV} : envOf k (v :: vs) = (k, v) :: envOf (k + 1) vs := by rw [envOf]
theorem rn_end1 {rs : List PRes} {K : PV → Mem → Prop} {KP : DV → Mem → Prop} {s : St} : endQ rs K KP .normal s = runRes rs s (fun vs => K (resV vs) s.mem) := propext ⟨id, id⟩
theorem rn_end2 {rs : List PRes} {K : PV → Mem → Prop} {KP : DV → Mem → Prop} {s : St} : endQ rs K KP .ret s = runRes rs s (fun vs => K (resV vs) s.mem) := propext ⟨id, id⟩
theorem rn_end3 {rs : List PRes} {K : PV → Mem → Prop} {KP : DV → Mem → Prop} {s : St} {d : DV} : endQ rs K KP (.panic d) s = KP d s.mem := propext ⟨id, id⟩
theorem rn_end4 {rs : List PRes} {K : PV → Mem → Prop} {KP : DV → Mem → Prop} {s : St} {i : Nat} : endQ rs K KP (.exit i) s = False := propext ⟨id, id⟩
theorem rn_res0 {s : St} {K : List PV → Prop} : runRes [] s K = K [] := propext ⟨id, id⟩
theorem rn_res1 {s : St} {K : List PV → Prop} {t : Nat} {l : List PRes} : runRes (.tmp t :: l) s K = runRes l s (fun vs => K (look s.env t :: vs)) := propext ⟨id, id⟩
theorem rn_res2 {s : St} {K : List PV → Prop} {t n : Nat} {g : Bool} {l : List PRes} : runRes (.cell t g n :: l) s K = runLoad g n (look s.env t) s.mem (fun v => runRes l s fun vs => K (v :: vs)) := propext ⟨id, id⟩
theorem rn_v0 : resV [] = mkTup [] := by rw [resV]; intro x h; cases h
theorem rn_v1 {x : PV} : resV [x] = x := by rw [resV]
theorem rn_v2 {x y : PV} {l : List PV} : resV (x :: y :: l) = mkTup (x :: y :: l) := by rw [resV]; intro x h; cases h
theorem rn_splice {α : Type} {cs : List α} {off : Nat} {new : List α} : splice cs off new = cs.take off ++ new ++ cs.drop (off + new.length) := by rw [splice]
set_option linter.defProp false in
def RN := And.intro (And.intro (And.intro (And.intro (And.intro (And.intro (And.intro (@pwp_skip) (And.intro (@pwp_label) (@pwp_ret))) (And.intro (@pwp_exit) (And.intro (@pwp_scope) (@pwp_seq)))) (And.intro (And.intro (@seqQ_normal) (And.intro (@seqQ_ret) (@seqQ_exit))) (And.intro (@seqQ_panic) (And.intro (@pwp_block) (@blockQ_normal))))) (And.intro (And.intro (And.intro (@blockQ_ret) (And.intro (@blockQ_panic) (@blockQ_hit))) (And.intro (@blockQ_miss) (And.intro (@loopQ_normal) (@loopQ_ret)))) (And.intro (And.intro (@loopQ_exit) (And.intro (@loopQ_panic) (@pwp_cond_t))) (And.intro (And.intro (@pwp_cond_f) (@pwp_cond_ct)) (And.intro (@pwp_cond_cf) (@pwp_region0)))))) (And.intro (And.intro (And.intro (And.intro (@pwp_region) (And.intro (@frzSt_nil) (@keepEnv_nil))) (And.intro (@keepEnv_cons) (And.intro (@runPOs_nil) (@runPOs_cons)))) (And.intro (And.intro (@runPO_0) (And.intro (@runPO_fl) (@runPO_tt))) (And.intro (And.intro (@runPO_ff) (@runPO_tf)) (And.intro (@runPO_ft) (@runPO_u))))) (And.intro (And.intro (And.intro (@flOK_0) (And.intro (@flOK_1) (@flOK_2p))) (And.intro (@flOK_2d) (And.intro (@flOK_3) (@flOK_4')))) (And.intro (And.intro (@isD_d) (And.intro (@put_some) (@put_none))) (And.intro (And.intro (@look_hit) (@look_miss)) (And.intro (@val_t) (@val_c))))))) (And.intro (And.intro (And.intro (And.intro (And.intro (@ev_mov) (And.intro (@ev_asgG_nil) (@ev_asgG_t))) (And.intro (@ev_pick) (And.intro (@ev_alloc) (@ev_box)))) (And.intro (And.intro (@ev_load) (And.intro (@ev_loadP) (@ev_store))) (And.intro (@ev_nilck_p) (And.intro (@ev_nilck_d) (@ev_bin))))) (And.intro (And.intro (And.intro (@ev_binB) (And.intro (@ev_un) (@ev_isNil))) (And.intro (@ev_mkSl0) (And.intro (@ev_mkSl1) (@ev_conv)))) (And.intro (And.intro (@ev_fld) (And.intro (@ev_fldv) (@ev_idxA))) (And.intro (And.intro (@ev_idxS) (@ev_call)) (And.intro (@ev_app) (@ev_len)))))) (And.intro (And.intro (And.intro (And.intro (@ev_lenS) (And.intro (@ev_lenC) (@ev_minmax))) (And.intro (@bin_int) (And.intro (@int_add) (@int_sub)))) (And.intro (And.intro (@int_mul) (And.intro (@int_quo) (@int_rem))) (And.intro (And.intro (@int_eql) (@int_neq)) (And.intro (@int_lss) (@int_leq))))) (And.intro (And.intro (And.intro (@int_gtr) (And.intro (@int_geq) (@un_neg))) (And.intro (@un_not) (And.intro (@load_d) (@fld_d)))) (And.intro (And.intro (@fld_p) (And.intro (@idxA_d) (@len_d))) (And.intro (And.intro (@ld_false) (@ld_true)) (And.intro (@ldD_false) (@ldD_true)))))))) (And.intro (And.intro (And.intro (And.intro (And.intro (And.intro (@cells_dagg) (And.intro (@cells_dint) (@cells_dbool))) (And.intro (@cells_dslice) (And.intro (@cells_dstr) (@cells_dfunc)))) (And.intro (And.intro (@isAgg_d) (And.intro (@ev_idxV) (@dcells_agg))) (And.intro (@dcells_int) (And.intro (@isDead_d) (@mkAgg_o))))) (And.intro (And.intro (And.intro (@mkTup_o) (And.intro (@aggO_some) (@tupO_some))) (And.intro (@optK_some) (And.intro (@ev_buildK) (@fillC_nil)))) (And.intro (And.intro (@fillC_d) (And.intro (@ev_extK) (@ev_mkF))) (And.intro (And.intro (@one_d) (@one_int)) (And.intro (@one_bool) (@one_str)))))) (And.intro (And.intro (And.intro (And.intro (@one_slice) (And.intro (@one_map) (@noMem_eq))) (And.intro (@load_pm) (And.intro (@loadBox_s) (@store_pm)))) (And.intro (And.intro (@storeBox_s) (And.intro (@len_tm) (@lenRow_s))) (And.intro (And.intro (@idxA_tm) (@idxRow_s)) (And.intro (@load_em) (@loadRow_s))))) (And.intro (And.intro (And.intro (@fld_em) (And.intro (@fldRow_s) (@app_dd))) (And.intro (@app_td) (And.intro (@appRow_s) (@frzSt_v)))) (And.intro (And.intro (@frzV_b) (And.intro (@frzB_1) (@allD_nil))) (And.intro (And.intro (@allD_cons) (@Option.map_some.{0, 0})) (And.intro (@List.mem_cons.{0}) (@List.not_mem_nil.{0}))))))) (And.intro (And.intro (And.intro (And.intro (And.intro (@or_false) (And.intro (@or_self) (@not_false_eq_true))) (And.intro (@ne_eq.{1}) (And.intro (@decide_true) (@decide_false)))) (And.intro (And.intro (@cond_true.{1}) (And.intro (@cond_false.{1}) (@Bool.not_true))) (And.intro (And.intro (@Bool.not_false) (@Nat.zero_add)) (And.intro (@Nat.add_zero) (@List.map_cons.{0, 0}))))) (And.intro (And.intro (And.intro (@List.map_nil.{0, 0}) (And.intro (@List.cons_append.{0}) (@List.nil_append.{0}))) (And.intro (@List.append_nil.{0}) (And.intro (@List.length_cons.{0}) (@List.length_nil.{0})))) (And.intro (And.intro (@List.replicate_succ.{0}) (And.intro (@List.replicate_zero.{0}) (@List.all_cons.{0}))) (And.intro (And.intro (@List.all_nil.{0}) (@Bool.and_true)) (And.intro (@Bool.true_and) (@Bool.and_self)))))) (And.intro (And.intro (And.intro (And.intro (@true_and) (And.intro (@and_true) (@true_implies))) (And.intro (@List.set_cons_zero.{0}) (And.intro (@List.set_cons_succ.{0}) (@List.getElem?_cons_zero.{0})))) (And.intro (And.intro (@List.getElem?_cons_succ.{0}) (And.intro (@List.drop_succ_cons.{0}) (@List.drop_zero.{0}))) (And.intro (And.intro (@List.take_succ_cons.{0}) (@List.take_zero.{0})) (And.intro (@List.getD_cons_zero.{0}) (@List.getD_cons_succ.{0}))))) (And.intro (And.intro (And.intro (@rn_env0) (And.intro (@rn_env1) (@rn_end1))) (And.intro (@rn_end2) (And.intro (@rn_end3) (@rn_end4)))) (And.intro (And.intro (@rn_res0) (And.intro (@rn_res1) (@rn_res2))) (And.intro (And.intro (@rn_v0) (@rn_v1)) (And.intro (@rn_v2) (@rn_splice))))))))
end Go.Am
namespace Go.Tel
open Go.Am
abbrev kI (n : Int) : Opd := .c (.int .i64 n)
abbrev mv (d a : Nat) : PO := ⟨some d, .mov, [.t a], none, 0⟩
abbrev mk (d : Nat) (a : Opd) : PO := ⟨some d, .mov, [a], none, 0⟩
abbrev oa (d : Nat) (o : POp) (a : Nat) : PO := ⟨some d, o, [.t a], none, 0⟩
abbrev ob (d : Nat) (o : POp) (a b : Nat) : PO := ⟨some d, o, [.t a, .t b], none, 0⟩
abbrev oc (d : Nat) (o : POp) (a : Nat) (b : Opd) : PO := ⟨some d, o, [.t a, b], none, 0⟩
abbrev on (d : Nat) (o : POp) (l : List Opd) : PO := ⟨some d, o, l, none, 0⟩
abbrev of (d : Nat) (o : POp) (l : List Opd) (f : Nat) : PO := ⟨some d, o, l, none, f⟩
abbrev ot (d : Nat) (o : POp) (l : List Opd) (g f : Nat) : PO := ⟨some d, o, l, some (g, true), f⟩
abbrev oF (d : Nat) (o : POp) (l : List Opd) (g f : Nat) : PO := ⟨some d, o, l, some (g, false), f⟩
abbrev lo (d a : Nat) : PO := ⟨some d, .load false 1, [.t a], none, 0⟩
abbrev os (o : POp) (l : List Opd) (f : Nat) : PO := ⟨none, o, l, none, f⟩
abbrev rg (l : List PO) (n : Nat) (k : List Nat) : PCode := .region false l n k []
end Go.Tel
namespace Go.Am
def Mem.ext (M : Mem) (xb : List (Option (List PV))) (xf : List Nat) (xa : List (Option Arr)) : Mem := ⟨M.boxes ++ xb, xf ++ M.fz, M.arrs ++ xa⟩
def Iter (C : Ctx) (g : FuncId) (fs : List DV) (xs : List (List DV)) : Prop :=
 ∀ (M : Mem) (b : Nat) (I : List (List DV) → Prop) (stop : Mem → Prop) (K : PV → Mem → Prop), b < M.boxes.length →
  (∀ pre x post xb xf xa, xs = pre ++ x :: post → I pre → (∀ i ∈ xf, M.boxes.length ≤ i) →
   SY C b (x.map .d) (M.ext xb xf xa) (fun p M' => (p = .d (.bool true) ∧ M' = M.ext xb xf xa ∧ I (pre ++ [x])) ∨ (p = .d (.bool false) ∧ stop M')) (fun _ _ => False)) →
  I [] → (∀ p M', stop M' → K p M') → (∀ p xb xf xa, (∀ i ∈ xf, M.boxes.length ≤ i) → I xs → K p (M.ext xb xf xa)) → SC C g (fs.map .d ++ [.yref b]) M K (fun _ _ => False)
section
variable {C : Ctx} {base : Nat}
theorem SC.monoP {f : FuncId} {args : List PV} {M : Mem} {K : PV → Mem → Prop} {KP KP' : DV → Mem → Prop} (h : SC C f args M K KP) (hp : ∀ d M, KP d M → KP' d M) : SC C f args M K KP' := by
 intro X w E vals hS hA
 refine (h X w E vals hS hA).mono fun e w' he => ?_
 cases e with
 | returned v => exact he
 | panicked c => obtain ⟨v, d, M', E', g1, g2, g3⟩ := he; exact ⟨v, d, M', E', g1, hp _ _ g2, g3⟩
 | outgrown => exact he
theorem SY.monoP {b : Nat} {args : List PV} {M : Mem} {K : PV → Mem → Prop} {KP KP' : DV → Mem → Prop} (h : SY C b args M K KP) (hp : ∀ d M, KP d M → KP' d M) : SY C b args M K KP' := by
 intro X w E vals l hS hA hl
 obtain ⟨fn, tmps, a, body, h1, h2⟩ := h X w E vals l hS hA hl
 refine ⟨fn, tmps, a, body, h1, h2.mono fun e w' he => ?_⟩
 cases e with
 | returned v => exact he
 | panicked c => obtain ⟨v, d, M', E', g1, g2, g3⟩ := he; exact ⟨v, d, M', E', g1, hp _ _ g2, g3⟩
 | outgrown => exact he
theorem runOp_monoP {op : POp} {args : List PV} {M : Mem} {K : PV → Mem → Prop} {KP KP' : DV → Mem → Prop} (hp : ∀ d M', KP d M' → KP' d M') (h : runOp C base op args M K KP) : runOp C base op args M K KP' := by
 cases op with
 | call f => exact SC.monoP h hp
 | callV =>
  simp only [runOp] at h ⊢
  split at h
  ·exact ⟨h.1, h.2.monoP hp⟩
  ·exact ⟨h.1, h.2.monoP hp⟩
  ·exact SY.monoP h hp
  ·exact h.elim
 | inv name =>
  simp only [runOp] at h ⊢
  split at h
  ·obtain ⟨f, h1, h2, h3⟩ := h
   exact ⟨f, h1, h2, h3.monoP hp⟩
  ·exact h.elim
 | panic =>
  simp only [runOp] at h ⊢
  split at h
  ·split at h
   ·exact hp _ _ h
   ·exact h.elim
  ·exact h.elim
 | _ => exact h
theorem runPO_monoP {p : PO} {K K' : St → Prop} {KP KP' : DV → Mem → Prop} (hk : ∀ s, K s → K' s) (hp : ∀ d M', KP d M' → KP' d M') {s : St} (h : runPO C base p K KP s) : runPO C base p K' KP' s := by
 unfold runPO at h ⊢
 split at h
 ·exact ⟨h.1, runOp_monoP hp (runOp_mono (fun v M' hh => hk _ hh) h.2)⟩
 ·split at h
  ·exact ⟨fun e => ⟨(h.1 e).1, runOp_monoP hp (runOp_mono (fun v M' hh => hk _ hh) (h.1 e).2)⟩, fun e => hk _ (h.2 e)⟩
  ·exact hk _ h
  ·exact h.elim
theorem runPOs_monoP {KP KP' : DV → Mem → Prop} (hp : ∀ d M', KP d M' → KP' d M') : ∀ {ps : List PO} {K K' : St → Prop} (_ : ∀ s, K s → K' s) {s : St}, runPOs C base ps K KP s → runPOs C base ps K' KP' s
 | [], _, _, hk, _, h => hk _ h
 | _ :: _, _, _, hk, _, h => runPO_monoP (fun _ h => runPOs_monoP hp hk h) hp h
theorem frzSt_mono {K K' : St → Prop} (hk : ∀ s, K s → K' s) : ∀ {ts : List Nat} {s : St}, frzSt ts K s → frzSt ts K' s
 | [], _, h => hk _ h
 | t :: ts, s, h => by
  simp only [frzSt] at h ⊢
  split at h
  ·exact frzSt_mono hk h
  ·exact h.elim
theorem pwp_mono {nb na : Nat} : ∀ {pc : PCode} {Q Q' : Ex → St → Prop} (_ : ∀ e s, Q e s → Q' e s) {s : St}, pwp C nb na pc Q s → pwp C nb na pc Q' s
 | .skip, _, _, hq, _, h => hq _ _ h
 | .label _, _, _, hq, _, h => hq _ _ h
 | .exit _, _, _, hq, _, h => hq _ _ h
 | .ret, _, _, hq, _, h => hq _ _ h
 | .region _ _ _ _ _, _, _, hq, _, h => by
  simp only [pwp] at h ⊢
  exact runPOs_monoP (fun d M' h => hq _ _ h) (fun s h => frzSt_mono (fun s h => hq _ _ h) h) h
 | .seq a b, _, _, hq, _, h => by
  simp only [pwp] at h ⊢
  refine pwp_mono (fun e s h => ?_) h
  cases e with
  | normal => exact pwp_mono hq h
  | exit id => exact hq _ _ h
  | ret => exact hq _ _ h
  | panic d => exact hq _ _ h
 | .cond c a b, _, _, hq, _, h => by
  simp only [pwp] at h ⊢
  split at h
  ·exact ⟨fun e => pwp_mono hq (h.1 e), fun e => pwp_mono hq (h.2 e)⟩
  ·exact h.elim
 | .block id b, _, _, hq, _, h => by
  simp only [pwp] at h ⊢
  refine pwp_mono (fun e s h => ?_) h
  cases e with
  | normal => exact hq _ _ h
  | exit id' =>
   simp only at h ⊢
   split at h
   ·rename_i hid; rw [if_pos hid]; exact hq _ _ h
   ·rename_i hid; rw [if_neg hid]; exact hq _ _ h
  | ret => exact hq _ _ h
  | panic d => exact hq _ _ h
 | .loop b, _, _, hq, _, h => by
  simp only [pwp] at h ⊢
  obtain ⟨I, n, h0, hr⟩ := h
  refine ⟨I, n, h0, fun k s hs => pwp_mono (fun e s h => ?_) (hr k s hs)⟩
  cases e with
  | normal => exact h
  | exit id => exact hq _ _ h
  | ret => exact hq _ _ h
  | panic d => exact hq _ _ h
 | .scope b, _, _, hq, _, h => by
  simp only [pwp] at h ⊢
  exact pwp_mono hq h
 | .rangeF f ps keys asg body, _, _, hq, _, h => by
  simp only [pwp] at h ⊢
  obtain ⟨g, fs, cs, h1, h2, h3, h4⟩ := h
  refine ⟨g, fs, cs, h1, h2, h3, fun L hL hround => SC.mono (h4 L hL hround) fun v M hM => ?_⟩
  obtain ⟨st, pd, cells, q1, q2, q3, q4⟩ := hM
  refine ⟨st, pd, cells, q1, q2, q3, ?_⟩
  split at q4
  ·exact hq _ _ q4
  ·exact hq _ _ q4
  ·exact hq _ _ q4
  ·exact q4.elim
end
section
variable {C : Ctx} {nb na : Nat} {Q : Ex → St → Prop}
def roundE (env : List (Nat × PV)) (b : Nat) (L : Loop) (Mb : Mem) (more : Prop) (Q : Ex → St → Prop) (e : Ex) (s : St) : Prop :=
 match e with
 | .normal => s.mem = Mb ∧ more
 | .ret => ∃ cells, s.mem.boxes[b]? = some (some (.loopc { L with state := .busy, pending := none } :: cells)) ∧ b ∉ s.mem.fz ∧ Q .ret ⟨env, { s.mem with boxes := s.mem.boxes.set b (some (.loopc { L with state := .exhausted, pending := some .ret } :: cells)) }⟩
 | .exit id => ∃ cells, s.mem.boxes[b]? = some (some (.loopc { L with state := .busy, pending := none } :: cells)) ∧ b ∉ s.mem.fz ∧ Q (.exit id) ⟨env, { s.mem with boxes := s.mem.boxes.set b (some (.loopc { L with state := .exhausted, pending := some (.exit id) } :: cells)) }⟩
 | .panic _ => False
theorem loopMem_get' {M : Mem} {L : Loop} {st : LoopState} {pd : Option Code} {cells : List PV} {xb : List (Option (List PV))} {xf : List Nat} {xa : List (Option Arr)} : (loopMem M L st pd cells xb xf xa).boxes[M.boxes.length]? = some (some (.loopc { L with state := st, pending := pd } :: cells)) := by simp [loopMem]
theorem loopMem_set' {M : Mem} {L : Loop} {st st' : LoopState} {pd pd' : Option Code} {cells : List PV} {xb : List (Option (List PV))} {xf : List Nat} {xa : List (Option Arr)} :
  ({ loopMem M L st pd cells xb xf xa with boxes := (loopMem M L st pd cells xb xf xa).boxes.set M.boxes.length (some (.loopc { L with state := st', pending := pd' } :: cells)) } : Mem) = loopMem M L st' pd' cells xb xf xa := by
 simp [loopMem]
theorem loopMem_ext {M : Mem} {L : Loop} {st : LoopState} {pd : Option Code} {cells : List PV} {xb : List (Option (List PV))} {xf : List Nat} {xa : List (Option Arr)} : (loopMem M L st pd cells [] [] []).ext xb xf xa = loopMem M L st pd cells xb xf xa := by
 simp [loopMem, Mem.ext]
theorem pwp_iter {f : Opd} {ps keys : List Nat} {asg body : PCode} {s : St} {g : FuncId} {fs : List DV} {xs : List (List DV)} (hit : Iter C g fs xs) (hv : s.val f = .d (.func (.func g) fs [])) (hc : callable C.P g = true) (hfz : s.mem.boxes.length ∉ s.mem.fz) (hps : ∀ x ∈ xs, x.length = ps.length)
  (I : List (List DV) → Prop) (h0 : I [])
  (hb : ∀ (L : Loop) (pre : List (List DV)) (x : List DV) (post : List (List DV)) (xb : List (Option (List PV))) (xf : List Nat) (xa : List (Option Arr)), xs = pre ++ x :: post → I pre → (∀ i ∈ xf, s.mem.boxes.length < i) →
   pwp C nb na asg (fun e s1 => e = .normal ∧ s1.mem = loopMem s.mem L .ready none ((List.range L.tmps.size).map (look s.env)) xb xf xa ∧
    pwp C nb na body (roundE s.env s.mem.boxes.length L (loopMem s.mem L .busy none ((List.range L.tmps.size).map (look s.env)) xb xf xa) (I (pre ++ [x])) Q) ⟨s1.env, loopMem s.mem L .busy none ((List.range L.tmps.size).map (look s.env)) xb xf xa⟩)
    ⟨ps.zip (x.map .d) ++ keepEnv s.env keys, loopMem s.mem L .ready none ((List.range L.tmps.size).map (look s.env)) xb xf xa⟩)
  (he : I xs → ∀ (L : Loop) xb xf xa, (∀ i ∈ xf, s.mem.boxes.length < i) → Q .normal ⟨s.env, loopMem s.mem L .exhausted none ((List.range L.tmps.size).map (look s.env)) xb xf xa⟩) :
  pwp C nb na (.rangeF f ps keys asg body) Q s := by
 refine ⟨g, fs, [], hv, hc, hfz, fun L hL hround => ?_⟩
 generalize hcells : (List.range L.tmps.size).map (look s.env) = cells at hb he hround ⊢
 have hlen : (loopMem s.mem L .ready none cells [] [] []).boxes.length = s.mem.boxes.length + 1 := by simp [loopMem]
 rw [List.map_nil, List.append_nil]
 refine hit _ _ I (fun M => afterLoop Q s.env s.mem.boxes.length L M) _ (by rw [hlen]; omega) ?_ h0 (fun _ _ h => h) ?_
 ·intro pre x post xb xf xa hx hI hxf
  rw [hlen] at hxf
  rw [loopMem_ext]
  have hxf' : ∀ i ∈ xf, s.mem.boxes.length < i := fun i hi => by have := hxf i hi; omega
  refine hround x _ xb xf xa (hps x (by rw [hx]; simp)) hxf' ?_
  have := hb L pre x post xb xf xa hx hI hxf'
  simp only [hcells] at this
  refine pwp_mono ?_ this
  rintro e s1 ⟨h1, h2, h3⟩
  refine ⟨h1, h2, pwp_mono ?_ h3⟩
  intro e2 s2 h
  have hnf : s.mem.boxes.length ∉ xf ++ s.mem.fz := by rw [List.mem_append]; exact fun h => h.elim (fun h => Nat.lt_irrefl _ (hxf' _ h)) hfz
  cases e2 with
  | normal =>
   obtain ⟨g1, g2⟩ := h
   refine ⟨cells, by rw [g1]; exact loopMem_get', by rw [g1]; exact hnf, .inl ⟨rfl, ?_, g2⟩⟩
   rw [g1]; exact loopMem_set'
  | ret =>
   obtain ⟨cs, g1, g2, g3⟩ := h
   refine ⟨cs, g1, g2, .inr ⟨rfl, .done, some .ret, cs, ?_, by simp, g2, ?_⟩⟩
   ·have := (List.getElem?_eq_some_iff.1 g1).1
    simp [this]
   ·simpa [List.set_set] using g3
  | exit id =>
   obtain ⟨cs, g1, g2, g3⟩ := h
   refine ⟨cs, g1, g2, .inr ⟨rfl, .done, some (.exit id), cs, ?_, by simp, g2, ?_⟩⟩
   ·have := (List.getElem?_eq_some_iff.1 g1).1
    simp [this]
   ·simpa [List.set_set] using g3
  | panic d => exact h.elim
 ·intro p xb xf xa hxf hI
  rw [hlen] at hxf
  rw [loopMem_ext]
  have hxf' : ∀ i ∈ xf, s.mem.boxes.length < i := fun i hi => by have := hxf i hi; omega
  have hnf : s.mem.boxes.length ∉ xf ++ s.mem.fz := by rw [List.mem_append]; exact fun h => h.elim (fun h => Nat.lt_irrefl _ (hxf' _ h)) hfz
  refine ⟨.ready, none, cells, loopMem_get', by simp, hnf, ?_⟩
  have := he hI L xb xf xa hxf'
  rw [hcells] at this
  show Q .normal ⟨s.env, _⟩
  rw [loopMem_set']
  exact this
end
theorem ev_callY {C : Ctx} {base b : Nat} {args : List PV} {M : Mem} {K : PV → Mem → Prop} {KP : DV → Mem → Prop} (h : SY C b args M K KP) : runOp C base .callV (.yref b :: args) M K KP := h
end Go.Am
