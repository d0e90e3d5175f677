/-
  Part 27 of the proof of a law of plates: an abstract machine over the model, contracts of functions, plain laws.
  Conditions: none.
-/
import Derived.Test.YticjmjdcggomgaaGreatDoorM26
import Derived.Test.YticjmjdcggomgaaGreatDoorRows
import Derived.Lay
import Derived.Handed
import Derived.LaidHandle
import Derived.Lib.LaidTab
set_option linter.all false
namespace Go.Am
theorem has_int {k : IntKind} {ds : List DV} (h : Has (.int k) ds) : ∃ n, ds = [.int k n] := by cases h; exact ⟨_, rfl⟩
theorem has_str {ds : List DV} (h : Has .str ds) : ∃ s, s.size ≤ maxLen ∧ ds = [.str s] := by cases h with | str h => exact ⟨_, h, rfl⟩
theorem has_nil {ds : List DV} (h : Has (.struct []) ds) : ds = [] := by cases h; rfl
theorem has_cons {t : Ty} {ts : List Ty} {ds : List DV} (h : Has (.struct (t :: ts)) ds) : ∃ a b, ds = a ++ b ∧ Has t a ∧ Has (.struct ts) b := by cases h with | cons h h' => exact ⟨_, _, rfl, h, h'⟩
theorem has_i {k : IntKind} {ts : List Ty} {ds : List DV} (h : Has (.struct (.int k :: ts)) ds) : ∃ n b, ds = .int k n :: b ∧ Has (.struct ts) b := by
 obtain ⟨a, b, rfl, h1, h2⟩ := has_cons h
 obtain ⟨n, rfl⟩ := has_int h1
 exact ⟨n, b, rfl, h2⟩
theorem all_dv {α : Type} {e : Ty} {dv : α → DV} : ∀ {xs : List DV}, (∀ x ∈ xs, ∃ a, x = dv a) → ∃ l : List α, xs = l.map dv
 | [], _ => ⟨[], rfl⟩
 | x :: xs, h => by
  obtain ⟨a, rfl⟩ := h x List.mem_cons_self
  obtain ⟨l, rfl⟩ := all_dv (e := e) fun y hy => h y (List.mem_cons_of_mem _ hy)
  exact ⟨a :: l, rfl⟩
theorem has_sl {α : Type} {e : Ty} {dv : α → DV} (hd : ∀ x, Has e x.cells → Shp e x → ∃ a, x = dv a) {ds : List DV} (h : Has (.slice e) ds) : ∃ l : List α, ds = [.slice false (l.map dv)] := by
 cases h with
 | slice h h' =>
  rename_i xs
  obtain ⟨l, rfl⟩ := all_dv (e := e) fun x hx => hd x (h x hx) (h' x hx)
  exact ⟨l, rfl⟩
theorem has_s {α : Type} {e : Ty} {dv : α → DV} (hd : ∀ x, Has e x.cells → Shp e x → ∃ a, x = dv a) {ts : List Ty} {ds : List DV} (h : Has (.struct (.slice e :: ts)) ds) : ∃ (l : List α) (b : List DV), ds = .slice false (l.map dv) :: b ∧ Has (.struct ts) b := by
 obtain ⟨a, b, rfl, h1, h2⟩ := has_cons h
 obtain ⟨l, rfl⟩ := has_sl hd h1
 exact ⟨l, b, rfl, h2⟩
theorem hasAll_cons {T : Ty} {Ts : List Ty} {xs : List DV} (h : HasAll (T :: Ts) xs) : ∃ x l, xs = x :: l ∧ HasV T x ∧ HasAll Ts l := by
 cases xs with
 | nil => exact h.elim
 | cons x l => exact ⟨x, l, rfl, h.1, h.2⟩
theorem hasAll_nil {xs : List DV} (h : HasAll [] xs) : xs = [] := by
 cases xs with
 | nil => rfl
 | cons x l => exact h.elim
end Go.Am
namespace Go.Tel
open Go.Am
abbrev ptTy : Ty := .struct [.int .i64, .int .i64]
abbrev whTy : Ty := .struct [.int .i64, .int .i64, .int .i64, .int .i64]
abbrev pieceTy : Ty := .struct [.int .i64, .int .i64, .int .i64, .int .i64, .int .i64, .slice ptTy, .slice whTy, .slice ptTy]
abbrev dvdTy : Ty := .struct [.int .i64, .slice (.int .i64)]
theorem has_pt (x : DV) (h : Has ptTy x.cells) (hs : Shp ptTy x) : ∃ p : Pt, x = p.dv := by
 obtain ⟨cs, rfl⟩ := hs.1 rfl
 obtain ⟨a, _, e1, h1⟩ := has_i h
 obtain ⟨b, _, rfl, h2⟩ := has_i h1
 obtain rfl := has_nil h2
 exact ⟨⟨a, b⟩, by rw [Pt.dv]; exact congrArg DV.agg e1⟩
theorem has_ms (x : DV) (h : Has ptTy x.cells) (hs : Shp ptTy x) : ∃ p : Ms, x = p.dv := by
 obtain ⟨cs, rfl⟩ := hs.1 rfl
 obtain ⟨a, _, e1, h1⟩ := has_i h
 obtain ⟨b, _, rfl, h2⟩ := has_i h1
 obtain rfl := has_nil h2
 exact ⟨⟨a, b⟩, by rw [Ms.dv]; exact congrArg DV.agg e1⟩
theorem has_wh (x : DV) (h : Has whTy x.cells) (hs : Shp whTy x) : ∃ p : Wh, x = p.dv := by
 obtain ⟨cs, rfl⟩ := hs.1 rfl
 obtain ⟨a, _, e1, h1⟩ := has_i h
 obtain ⟨b, _, rfl, h2⟩ := has_i h1
 obtain ⟨c, _, rfl, h3⟩ := has_i h2
 obtain ⟨d, _, rfl, h4⟩ := has_i h3
 obtain rfl := has_nil h4
 exact ⟨⟨a, b, c, d⟩, by rw [Wh.dv]; exact congrArg DV.agg e1⟩
theorem has_in (x : DV) (h : Has (.int .i64) x.cells) (hs : Shp (.int .i64) x) : ∃ n : Int, x = intDV n := by
 obtain ⟨n, h⟩ := has_int h
 rw [hs.2 rfl] at h
 exact ⟨n, (List.cons.inj h).1⟩
theorem hasV_int {x : DV} (h : HasV (.int .i64) x) : ∃ n : Int, x = .int .i64 n := by
 obtain ⟨n, h1⟩ := has_int h.1
 rw [h.2.2 rfl] at h1
 exact ⟨n, (List.cons.inj h1).1⟩
theorem hasV_str {x : DV} (h : HasV .str x) : ∃ s, s.size ≤ maxLen ∧ x = .str s := by
 obtain ⟨s, hs, h1⟩ := has_str h.1
 rw [h.2.2 rfl] at h1
 exact ⟨s, hs, (List.cons.inj h1).1⟩
theorem hasV_ints {x : DV} (h : HasV (.slice (.int .i64)) x) : ∃ l : List Int, x = .slice false (l.map intDV) := by
 obtain ⟨l, h1⟩ := has_sl has_in h.1
 rw [h.2.2 rfl] at h1
 exact ⟨l, (List.cons.inj h1).1⟩
theorem hasV_piece {x : DV} (h : HasV pieceTy x) : ∃ p : Piece, x = p.dv := by
 obtain ⟨h, hs⟩ := h
 obtain ⟨cs, rfl⟩ := hs.1 rfl
 obtain ⟨a, _, e1, h1⟩ := has_i h
 obtain ⟨b, _, rfl, h2⟩ := has_i h1
 obtain ⟨c, _, rfl, h3⟩ := has_i h2
 obtain ⟨d, _, rfl, h4⟩ := has_i h3
 obtain ⟨e, _, rfl, h5⟩ := has_i h4
 obtain ⟨f, _, rfl, h6⟩ := has_s has_pt h5
 obtain ⟨g, _, rfl, h7⟩ := has_s has_wh h6
 obtain ⟨i, _, rfl, h8⟩ := has_s has_ms h7
 obtain rfl := has_nil h8
 exact ⟨⟨a, b, c, d, e, f, g, i⟩, by rw [Piece.dv]; exact congrArg DV.agg e1⟩
end Go.Tel
namespace Go.Am
section
variable {H : Type} {enc : TypeId × Value → H} {P : Program} {w : World} {base : Nat} {spare : Nat → Bool} {held : Bool}
theorem trodAll_len : ∀ {ts : List TypeId} {vs : List Value} {ds : List (DataW H)} {ps : List MemPlace}, DataW.TrodAll enc P w base spare held ts vs ds ps → ds.length = ts.length
 | [], [], [], _, _ => rfl
 | t :: ts, v :: vs, d :: ds, ps, h => by
  obtain ⟨p, q, _, h2, _⟩ := h
  rw [List.length_cons, List.length_cons, trodAll_len h2]
 | [], _ :: _, _, _, h => by cases h
 | [], [], _ :: _, _, h => by cases h
 | _ :: _, [], _, _, h => by cases h
 | _ :: _, _ :: _, [], _, h => by cases h
end
theorem len_1 {α : Type} {l : List α} (h : l.length = 1) : ∃ a, l = [a] := List.length_eq_one_iff.1 h
theorem len_s {α : Type} {l : List α} {n : Nat} (h : l.length = n + 1) : ∃ a r, l = a :: r ∧ r.length = n := by
 cases l with
 | nil => cases h
 | cons a r => exact ⟨a, r, rfl, by simpa using h⟩
theorem len_2 {α : Type} {l : List α} (h : l.length = 2) : ∃ a b, l = [a, b] := by
 obtain ⟨a, r, rfl, h1⟩ := len_s h
 obtain ⟨b, rfl⟩ := len_1 h1
 exact ⟨a, b, rfl⟩
theorem len_3 {α : Type} {l : List α} (h : l.length = 3) : ∃ a b c, l = [a, b, c] := by
 obtain ⟨a, r, rfl, h1⟩ := len_s h
 obtain ⟨b, c, rfl⟩ := len_2 h1
 exact ⟨a, b, c, rfl⟩
theorem len_4 {α : Type} {l : List α} (h : l.length = 4) : ∃ a b c d, l = [a, b, c, d] := by
 obtain ⟨a, r, rfl, h1⟩ := len_s h
 obtain ⟨b, c, d, rfl⟩ := len_3 h1
 exact ⟨a, b, c, d, rfl⟩
theorem len_5 {α : Type} {l : List α} (h : l.length = 5) : ∃ a b c d e, l = [a, b, c, d, e] := by
 obtain ⟨a, r, rfl, h1⟩ := len_s h
 obtain ⟨b, c, d, e, rfl⟩ := len_4 h1
 exact ⟨a, b, c, d, e, rfl⟩
theorem len_6 {α : Type} {l : List α} (h : l.length = 6) : ∃ a b c d e f, l = [a, b, c, d, e, f] := by
 obtain ⟨a, r, rfl, h1⟩ := len_s h
 obtain ⟨b, c, d, e, f, rfl⟩ := len_5 h1
 exact ⟨a, b, c, d, e, f, rfl⟩
end Go.Am
namespace Go.Am
theorem metH_met {P : Program} {l : List (String × DataW Unit)} {w : World} (he : (l.filter fun x => x.2.handleName?.isSome) = []) (h : laidMetH P l w) : laidMet P l w := by
 unfold laidMetH at h
 rw [he] at h
 exact h
theorem vars_at {P : Program} {w : World} {n : String} {d : DataW Unit} : ∀ {l : List (String × DataW Unit)} {ps : List MemPlace}, DataW.LaidVars P w l ps → (n, d) ∈ l →
  ∃ g t cs fuel p, P.globalNamed n = some g ∧ (P.globals[g]?).map (·.type) = some t ∧ w.var? P n = some cs ∧ DataW.trod (fun _ => ()) P w 0 (fun _ => true) false fuel t cs.toList = some (d, p)
 | [], _, _, h => by cases h
 | (n', d') :: l, ps, h, hm => by
  obtain ⟨g, t, cs, fuel, p, q, h1, h2, h3, h4, h5, _⟩ := h
  cases hm with
  | head => exact ⟨g, t, cs, fuel, p, h1, h2, h3, h4⟩
  | tail _ hm => exact vars_at h5 hm
theorem tab_laid {P : Program} {W : World} {name : String} {k : IntKind} {zs : List Int} {l : List (String × DataW Unit)} {g : Nat} {t e : TypeId} {n : Nat}
  (hg : P.globalNamed name = some g) (hty : (P.globals[g]?).map (·.type) = some t) (ht : P.underlying t = some (.array n e)) (he : P.underlying e = some (.int k)) (hce : P.cellsOf e = 1) (hct : P.cellsOf t = n)
  (h : laidMet P l W) (hm : (name, Lib.tabData k zs) ∈ l) : Lib.TabIs P W name k zs := by
 obtain ⟨ps, hv, _⟩ := h
 obtain ⟨g', t', cs, fuel, p, hg', ht', hvar, hd⟩ := vars_at hv hm
 obtain rfl := Option.some.inj (hg.symm.trans hg')
 obtain rfl := Option.some.inj (hty.symm.trans ht')
 unfold Lib.TabIs
 rw [hvar, ← Lib.cells_of_tab ht he hce hct hd]
end Go.Am
namespace Go.Tel
open Go.Am
theorem low_ok {W : World} (h : C.G W) : ∀ b, C.low b → b < W.heap.size ∧ ∀ c T fz, W.heap[b]? = some (.cells c T fz) → ∀ (i : Nat) (n : Int), c[i]? ≠ some (.int .i64 n) := by
 intro b hb
 have hb' : Go.Proofs.Tryz.prog.globalNamed "internal/strconv.uint64pow10" = some b := hb
 have h' : W.var? Go.Proofs.Tryz.prog "internal/strconv.uint64pow10" = some (Go.Lib.pow10Tab.map fun z => Value.int .u64 z).toArray := h
 unfold World.var? at h'
 rw [hb'] at h'
 simp only [Option.bind_some] at h'
 cases ho : W.heap[b]? with
 | none => rw [ho] at h'; cases h'
 | some o =>
  rw [ho] at h'
  refine ⟨getElem?_lt ho, fun c T fz hc i n hi => ?_⟩
  cases hc
  simp only [Option.some.injEq] at h'
  subst h'
  rw [List.getElem?_toArray, List.getElem?_map] at hi
  cases hz : Go.Lib.pow10Tab[i]? with
  | none => rw [hz] at hi; cases hi
  | some z => rw [hz] at hi; cases hi
end Go.Tel
namespace Go.Proofs.YticjmjdcggomgaaGreatDoor
open Go.ChangeShapes Go.WideShapes Go.RowKit Go.Am
theorem and_tt {a b : Bool} (ha : a = true) (hb : b = true) : (a && b) = true := by rw [ha, hb]; rfl
theorem own : ownKnob Tryz.prog.godebug = none := by kernel_rfl
theorem laidOut : laidOutB Tryz.prog = true := by kernel_rfl
def laidL : List (String × DataW Unit) := Rows.plateRatiosRow.laid
theorem laid_met (os : Os) (args : Array Value) : laidMet Tryz.prog laidL ((World.laidAll Tryz.prog os laidL).forCall (fun _ _ => 0) ⟨#[], args, []⟩).memory :=
 laidMet_laidAll args (by kernel_rfl) (by kernel_rfl)
theorem laidH_met (os : Os) (args : Array Value) : laidMetH Tryz.prog laidL ((World.laidAll Tryz.prog os laidL).forCall (fun _ _ => 0) ⟨#[], args, []⟩).memory :=
 laidMetH_of_parts (laid_met os args) (by kernel_rfl)
theorem tab_data : (Rows.laid_internal_strconv_uint64pow10 : DataW Unit) = Lib.tabData .u64 Lib.pow10Tab := rfl
theorem tab_mem : ("internal/strconv.uint64pow10", (Rows.laid_internal_strconv_uint64pow10 : DataW Unit)) ∈ laidL := List.Mem.tail _ (List.Mem.tail _ (List.Mem.head _))
theorem tab_of {W : World} (h : laidMetH Tryz.prog laidL W) : Go.Tel.C.G W :=
 tab_laid (P := Tryz.prog) (g := 1) (t := 234) (e := 204) (n := 20) (by kernel_rfl) (by kernel_rfl) (by kernel_rfl) (by kernel_rfl) (by kernel_rfl) (by kernel_rfl) (metH_met (by kernel_rfl) h) (tab_data ▸ tab_mem)
end Go.Proofs.YticjmjdcggomgaaGreatDoor
