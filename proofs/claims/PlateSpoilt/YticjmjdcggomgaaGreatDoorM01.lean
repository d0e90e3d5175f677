/-
  Part 1 of the proof of a law of plates: an abstract machine over the model, contracts of functions, plain laws.
  Conditions: none.
-/
import Derived.WalkKit
import Derived.Deep.LoopGhost
import Derived.Laws.CopyRow
import Derived.OrdersIn
set_option linter.all false
namespace Go.Am
structure TM (n : Nat) where
 ty : TypeId
 fr : Nat × Nat
 ok : fr.2 = 0 ∨ n ≤ fr.1
def TM.cast {n m : Nat} (h : n = m) (T : TM n) : TM m := ⟨T.ty, T.fr, h ▸ T.ok⟩
def TM.zero (n : Nat) (t : TypeId) : TM n := ⟨t, (0, 0), .inl rfl⟩
theorem run_storeCells_atM (P : Program) (g o : Nat) (t : TypeId) (fz : Nat × Nat) : ∀ (vs : List Value) (i : Nat) (cur : Array Value) (w : World), w.heap[g]? = some (.cells cur t fz) → (fz.2 = 0 ∨ cur.size ≤ fz.1) → o + i + vs.length ≤ cur.size → (∀ v ∈ vs, v.oneCell' = true) →
  (storeCells ⟨g, o, none⟩ vs i).run P w = .ok () (w.setRow g (cur.toList.take (o + i) ++ vs ++ cur.toList.drop (o + i + vs.length)).toArray)
 | [], i, cur, w, hg, _, _, _ => by
  simp only [storeCells, List.append_nil, List.length_nil, Nat.add_zero, List.take_append_drop, Array.toArray_toList]
  rw [setRow_self w g cur t fz hg]
  rfl
 | v :: rest, i, cur, w, hg, hfz, hl, h1 => by
  have hi : o + i < cur.size := by simp at hl; omega
  have hadd : (⟨g, o, none⟩ : Addr).add i = ⟨g, o + i, none⟩ := by unfold Addr.add; split <;> simp_all
  have hcell : w.cell? ⟨g, o + i, none⟩ = some cur[o + i] := by simp [World.cell?, hg, hi]
  have hfro : w.frozen? ⟨g, o + i, none⟩ = false := by
   obtain ⟨lo, hi'⟩ := fz
   simp only [World.frozen?, hg, Bool.and_eq_false_iff, decide_eq_false_iff_not]
   simp only at hfz
   omega
  have hst : (store ((⟨g, o, none⟩ : Addr).add i) v).run P w = .ok () (w.setRow g (cur.setIfInBounds (o + i) v)) := by
   rw [hadd, run_store P w _ v _ (h1 v (by simp)), hcell]
   simp [hfro, setCell_eq_setRow w g (o + i) cur t fz v hg]
  have ih := run_storeCells_atM P g o t fz rest (i + 1) (cur.setIfInBounds (o + i) v) (w.setRow g (cur.setIfInBounds (o + i) v)) (setRow_heap w g cur _ t _ hg) (by simpa using hfz) (by simp at hl ⊢; omega) (fun x hx => h1 x (by simp [hx]))
  simp only [storeCells, Sem.run_bind, hst, Result.andThen_ok, ih, setRow_setRow]
  congr 3
  have e := list_seg_step cur.toList (o + i) v rest (by simp at hl ⊢; omega)
  simpa [Array.toList_setIfInBounds, Nat.add_assoc] using e
inductive DV where
 | int (k : IntKind) (n : Int)
 | bool (b : Bool)
 | str (s : ByteArray)
 | nilPtr
 | cptr (cs : List DV)
 | slice (ex : Bool) (xs : List DV)
 | agg (cs : List DV)
 | tup (vs : List DV)
 | func (fn : Fn) (first captured : List DV)
 | nilFunc
 | nilIface
 | iface (t : TypeId) (v : DV)
 | map (r : Option (List (DV × DV)))
 deriving Inhabited
def DV.cells : DV → List DV
 | .agg cs => cs
 | v => [v]
def DV.one : DV → Bool
 | .agg _ => false
 | .tup _ => false
 | _ => true
def DV.fits (sz : Nat) (x : DV) : Bool := x.cells.length == sz && x.cells.all DV.one
def flat (xs : List DV) : List DV := xs.flatMap DV.cells
inductive PV where
 | d (x : DV)
 | ptr (b off : Nat)
 | eptr (k ver i off : Nat)
 | tsl (k ver skip : Nat)
 | psl (k ver skip len : Nat)
 | func (fn : Fn) (first captured : List PV)
 | agg (cs : List PV)
 | tup (vs : List PV)
 | dead
 | mref (b : Nat)
 | yref (b : Nat)
 | mapc (l : List (DV × DV))
 | loopc (L : Loop)
 | iref (b : Nat)
 | sitr (s : ByteArray) (pos : Nat)
 deriving Inhabited
def isObj : List PV → Bool
 | [.mapc _] => true
 | .loopc _ :: _ => true
 | [.sitr _ _] => true
 | _ => false
def PV.cells : PV → List PV
 | .agg cs => cs
 | .d (.agg cs) => cs.map .d
 | v => [v]
def PV.one : PV → Bool
 | .d x => x.one
 | .agg _ => false
 | .tup _ => false
 | .dead => false
 | .tsl _ _ _ => true
 | .psl _ _ _ _ => true
 | .ptr _ _ => true
 | .eptr _ _ _ _ => true
 | .func _ _ _ => true
 | .mref _ => true
 | .yref _ => true
 | .mapc _ => false
 | .loopc _ => false
 | .iref _ => true
 | .sitr _ _ => false
structure Arr where
 sz : Nat
 elems : List DV
 ver : Nat
 st : Nat
 deriving Inhabited
structure Mem where
 boxes : List (Option (List PV))
 fz : List Nat
 arrs : List (Option Arr)
structure Emb where
 bx : List Nat
 ar : List (Option (Nat × Nat × Nat))
def owned (M : Mem) (E : Emb) (blk : Nat) : Prop :=
 (∃ b cs : _, M.boxes[b]? = some (some cs) ∧ b ∉ M.fz ∧ E.bx[b]? = some blk) ∨
 (∃ (k : Nat) (A : Arr) (o e : Nat), M.arrs[k]? = some (some A) ∧ A.st ≠ 2 ∧ E.ar[k]? = some (some (blk, o, e)))
mutual
inductive RepD (w : World) (O : Nat → Prop) : Value → DV → Prop
 | int (k : IntKind) (n : Int) : RepD w O (.int k n) (.int k n)
 | bool (b : Bool) : RepD w O (.bool b) (.bool b)
 | str (s : ByteArray) : RepD w O (.string s) (.str s)
 | nilPtr : RepD w O (.pointer none) .nilPtr
 | cptr {blk off : Nat} {cs : Array Value} {T : TypeId} {fz : Nat × Nat} {ds : List DV}
   (hb : w.heap[blk]? = some (.cells cs T fz)) (ho : ¬ O blk) (h : RepL w O ((cs.toList.drop off).take ds.length) ds) :
   RepD w O (.pointer (some ⟨blk, off, none⟩)) (.cptr ds)
 | empty {a : Option Addr} {cap : Nat} {ex : Bool} (hx : ex = true → cap = 0) : RepD w O (.slice a 0 cap) (.slice ex [])
 | slice {blk off len cap sz : Nat} {ex : Bool} {xs : List DV} {cs : Array Value} {T : TypeId} {fz : Nat × Nat}
   (hb : w.heap[blk]? = some (.cells cs T fz)) (ho : ¬ O blk) (hl : xs.length = len) (hs : ∀ x ∈ xs, x.cells.length = sz) (hc : len ≤ cap) (hx : ex = true → cap = len)
   (h : RepL w O ((cs.toList.drop off).take (len * sz)) (flat xs)) : RepD w O (.slice (some ⟨blk, off, none⟩) len cap) (.slice ex xs)
 | agg {vs : Array Value} {ds : List DV} (h : RepL w O vs.toList ds) : RepD w O (.agg vs) (.agg ds)
 | tup {vs : Array Value} {ds : List DV} (h : RepL w O vs.toList ds) : RepD w O (.tuple vs) (.tup ds)
 | func {fn : Fn} {f c : Array Value} {df dc : List DV} (hf : RepL w O f.toList df) (hc : RepL w O c.toList dc) : RepD w O (.func fn f c) (.func fn df dc)
 | nilFunc : RepD w O .nilFunc .nilFunc
 | nilIface : RepD w O .nilIface .nilIface
 | iface {t : TypeId} {v : Value} {x : DV} (h : RepD w O v x) : RepD w O (.iface t v) (.iface t x)
 | nilMap : RepD w O (.map none) (.map none)
 | map {r : Nat} {es : Array MapEntry} {clock : Nat} {l : List (DV × DV)} (hb : w.heap[r]? = some (.map es clock)) (ho : ¬ O r)
   (hk : RepL w O (es.toList.map (·.key)) (l.map (·.1))) (hv : RepL w O (es.toList.map (·.val)) (l.map (·.2))) : RepD w O (.map (some r)) (.map (some l))
inductive RepL (w : World) (O : Nat → Prop) : List Value → List DV → Prop
 | nil : RepL w O [] []
 | cons {v : Value} {d : DV} {vs : List Value} {ds : List DV} (h : RepD w O v d) (t : RepL w O vs ds) : RepL w O (v :: vs) (d :: ds)
end
mutual
theorem RepD.mono {w w' : World} {O O' : Nat → Prop} (hk : ∀ b o, ¬ O b → w.heap[b]? = some o → w'.heap[b]? = some o ∧ ¬ O' b) :
  ∀ {v : Value} {d : DV}, RepD w O v d → RepD w' O' v d
 | _, _, .int k n => .int k n
 | _, _, .bool b => .bool b
 | _, _, .str s => .str s
 | _, _, .nilPtr => .nilPtr
 | _, _, .cptr hb ho h => .cptr (hk _ _ ho hb).1 (hk _ _ ho hb).2 (RepL.mono hk h)
 | _, _, .empty hx => .empty hx
 | _, _, .slice hb ho hl hs hc hx h => .slice (hk _ _ ho hb).1 (hk _ _ ho hb).2 hl hs hc hx (RepL.mono hk h)
 | _, _, .agg h => .agg (RepL.mono hk h)
 | _, _, .tup h => .tup (RepL.mono hk h)
 | _, _, .func hf hc => .func (RepL.mono hk hf) (RepL.mono hk hc)
 | _, _, .nilFunc => .nilFunc
 | _, _, .nilIface => .nilIface
 | _, _, .iface h => .iface (RepD.mono hk h)
 | _, _, .nilMap => .nilMap
 | _, _, .map hb ho h1 h2 => .map (hk _ _ ho hb).1 (hk _ _ ho hb).2 (RepL.mono hk h1) (RepL.mono hk h2)
theorem RepL.mono {w w' : World} {O O' : Nat → Prop} (hk : ∀ b o, ¬ O b → w.heap[b]? = some o → w'.heap[b]? = some o ∧ ¬ O' b) :
  ∀ {vs : List Value} {ds : List DV}, RepL w O vs ds → RepL w' O' vs ds
 | _, _, .nil => .nil
 | _, _, .cons h t => .cons (RepD.mono hk h) (RepL.mono hk t)
end
theorem RepL.length {w : World} {O : Nat → Prop} : ∀ {vs : List Value} {ds : List DV}, RepL w O vs ds → vs.length = ds.length
 | _, _, .nil => rfl
 | _, _, .cons _ t => by simp [RepL.length t]
theorem RepL.get {w : World} {O : Nat → Prop} : ∀ {vs : List Value} {ds : List DV} (_ : RepL w O vs ds) (i : Nat) (v : Value) (_ : vs[i]? = some v), ∃ d, ds[i]? = some d ∧ RepD w O v d
 | _, _, .nil, i, v, h => by simp at h
 | _, _, .cons h t, 0, v, hv => by simp at hv; subst hv; exact ⟨_, rfl, h⟩
 | _, _, .cons h t, i + 1, v, hv => by simpa using RepL.get t i v (by simpa using hv)
theorem RepL.get' {w : World} {O : Nat → Prop} {vs : List Value} {ds : List DV} (h : RepL w O vs ds) (i : Nat) (d : DV) (hd : ds[i]? = some d) : ∃ v, vs[i]? = some v ∧ RepD w O v d := by
 have hi : i < vs.length := by
  rw [h.length]; exact (List.getElem?_eq_some_iff.1 hd).1
 obtain ⟨d', h1, h2⟩ := h.get i vs[i] (List.getElem?_eq_getElem hi)
 rw [hd] at h1; cases h1
 exact ⟨_, List.getElem?_eq_getElem hi, h2⟩
theorem RepL.append {w : World} {O : Nat → Prop} : ∀ {vs us : List Value} {ds es : List DV}, RepL w O vs ds → RepL w O us es → RepL w O (vs ++ us) (ds ++ es)
 | _, _, _, _, .nil, h => h
 | _, _, _, _, .cons h t, h' => .cons h (RepL.append t h')
theorem RepL.take {w : World} {O : Nat → Prop} : ∀ {vs : List Value} {ds : List DV} (_ : RepL w O vs ds) (n : Nat), RepL w O (vs.take n) (ds.take n)
 | _, _, _, 0 => by simpa using .nil
 | _, _, .nil, n + 1 => by simpa using .nil
 | _, _, .cons h t, n + 1 => by simpa using .cons h (RepL.take t n)
theorem RepL.drop {w : World} {O : Nat → Prop} : ∀ {vs : List Value} {ds : List DV} (_ : RepL w O vs ds) (n : Nat), RepL w O (vs.drop n) (ds.drop n)
 | _, _, h, 0 => by simpa using h
 | _, _, .nil, n + 1 => by simpa using .nil
 | _, _, .cons h t, n + 1 => by simpa using RepL.drop t n
theorem RepL.set {w : World} {O : Nat → Prop} : ∀ {vs : List Value} {ds : List DV} (_ : RepL w O vs ds) (n : Nat) {v : Value} {d : DV} (_ : RepD w O v d), RepL w O (vs.set n v) (ds.set n d)
 | _, _, .nil, _, _, _, _ => by simpa using .nil
 | _, _, .cons h t, 0, _, _, hv => by simpa using .cons hv t
 | _, _, .cons h t, n + 1, _, _, hv => by simpa using .cons h (RepL.set t n hv)
def TslAt (w : World) (O : Nat → Prop) (A : Arr) (loc : Option (Nat × Nat × Nat)) (skip : Nat) (v : Value) : Prop :=
 skip ≤ A.elems.length ∧
 match loc with
 | some (blk, o, e) =>
  (∃ cap, v = .slice (some ⟨blk, o + skip * A.sz, none⟩) (A.elems.length - skip) cap ∧ A.elems.length - skip ≤ cap ∧ o + (skip + cap) * A.sz = e) ∨
  (A.elems.length = skip ∧ ∃ a, v = .slice a 0 0)
 | none => RepD w O v (.slice true (A.elems.drop skip))
def PslAt (w : World) (O : Nat → Prop) (A : Arr) (loc : Option (Nat × Nat × Nat)) (skip len : Nat) (v : Value) : Prop :=
 skip + len ≤ A.elems.length ∧
 match loc with
 | some (blk, o, _) => ∃ a cap, v = .slice a len cap ∧ (len ≠ 0 → a = some ⟨blk, o + skip * A.sz, none⟩)
 | none => RepD w O v (.slice false ((A.elems.drop skip).take len))
def EptrAt (w : World) (O : Nat → Prop) (A : Arr) (loc : Option (Nat × Nat × Nat)) (i off : Nat) (v : Value) : Prop :=
 i < A.elems.length ∧
 match loc with
 | some (blk, o, _) => v = .pointer (some ⟨blk, o + i * A.sz + off, none⟩)
 | none => RepD w O v (.cptr (((A.elems[i]?).getD default).cells.drop off))
mutual
inductive Rep (w : World) (O : Nat → Prop) (M : Mem) (E : Emb) : Value → PV → Prop
 | d {v : Value} {x : DV} (h : RepD w O v x) : Rep w O M E v (.d x)
 | ptr {b off blk : Nat} {cs : List PV} (hl : M.boxes[b]? = some (some cs)) (hb : E.bx[b]? = some blk) (ho : isObj cs = false) : Rep w O M E (.pointer (some ⟨blk, off, none⟩)) (.ptr b off)
 | eptr {k ver i off : Nat} {a : Option Addr} (hlt : k < M.arrs.length)
   (h : ∀ A : Arr, M.arrs[k]? = some (some A) → ver ≤ A.ver ∧ (A.ver = ver → ∃ loc, E.ar[k]? = some loc ∧ EptrAt w O A loc i off (.pointer a))) : Rep w O M E (.pointer a) (.eptr k ver i off)
 | tsl {k ver skip len cap : Nat} {a : Option Addr} (hlt : k < M.arrs.length)
   (h : ∀ A : Arr, M.arrs[k]? = some (some A) → ver ≤ A.ver ∧ (A.ver = ver → ∃ loc, E.ar[k]? = some loc ∧ TslAt w O A loc skip (.slice a len cap))) : Rep w O M E (.slice a len cap) (.tsl k ver skip)
 | psl {k ver skip len n cap : Nat} {a : Option Addr} (hlt : k < M.arrs.length)
   (h : ∀ A : Arr, M.arrs[k]? = some (some A) → ver ≤ A.ver ∧ (A.ver = ver → ∃ loc, E.ar[k]? = some loc ∧ PslAt w O A loc skip len (.slice a n cap))) : Rep w O M E (.slice a n cap) (.psl k ver skip len)
 | dead {v : Value} : Rep w O M E v .dead
 | mref {b blk : Nat} {cs : List PV} (hl : M.boxes[b]? = some (some cs)) (hb : E.bx[b]? = some blk) (ho : isObj cs = true) : Rep w O M E (.map (some blk)) (.mref b)
 | yref {b blk : Nat} {cs : List PV} (hl : M.boxes[b]? = some (some cs)) (hb : E.bx[b]? = some blk) (ho : isObj cs = true) : Rep w O M E (.func (.yield blk) #[] #[]) (.yref b)
 | iref {b blk : Nat} {cs : List PV} (hl : M.boxes[b]? = some (some cs)) (hb : E.bx[b]? = some blk) (ho : isObj cs = true) : Rep w O M E (.pointer (some ⟨blk, 0, none⟩)) (.iref b)
 | func {fn : Fn} {f c : Array Value} {df dc : List PV} (hf : RepP w O M E f.toList df) (hc : RepP w O M E c.toList dc) : Rep w O M E (.func fn f c) (.func fn df dc)
 | agg {vs : Array Value} {ds : List PV} (h : RepP w O M E vs.toList ds) : Rep w O M E (.agg vs) (.agg ds)
 | tup {vs : Array Value} {ds : List PV} (h : RepP w O M E vs.toList ds) : Rep w O M E (.tuple vs) (.tup ds)
inductive RepP (w : World) (O : Nat → Prop) (M : Mem) (E : Emb) : List Value → List PV → Prop
 | nil : RepP w O M E [] []
 | cons {v : Value} {d : PV} {vs : List Value} {ds : List PV} (h : Rep w O M E v d) (t : RepP w O M E vs ds) : RepP w O M E (v :: vs) (d :: ds)
end
structure From (w : World) (M : Mem) (E : Emb) (w' : World) (M' : Mem) (E' : Emb) : Prop where
 os : w'.os = w.os
 tape : w'.tape = w.tape
 output : w'.output = w.output
 size : w.heap.size ≤ w'.heap.size
 keep : ∀ b o, ¬ owned M E b → w.heap[b]? = some o → w'.heap[b]? = some o
 own : ∀ b, owned M' E' b → owned M E b ∨ w.heap.size ≤ b
 lenB : M.boxes.length ≤ M'.boxes.length
 bx : ∀ (b : Nat) (cs : List PV), M.boxes[b]? = some (some cs) → E'.bx[b]? = E.bx[b]? ∧ ∃ cs', M'.boxes[b]? = some (some cs') ∧ isObj cs' = isObj cs
 lenA : M.arrs.length ≤ M'.arrs.length
 ar : ∀ k A', k < M.arrs.length → M'.arrs[k]? = some (some A') → ∃ A, M.arrs[k]? = some (some A) ∧ A.ver ≤ A'.ver ∧
  (A'.ver = A.ver → E'.ar[k]? = E.ar[k]? ∧ A'.sz = A.sz ∧ A'.elems.length = A.elems.length ∧ (E.ar[k]? = some none → A'.elems = A.elems))
theorem From.refl (w : World) (M : Mem) (E : Emb) : From w M E w M E :=
 ⟨rfl, rfl, rfl, Nat.le_refl _, fun _ _ _ h => h, fun _ h => .inl h, Nat.le_refl _, fun _ cs h => ⟨rfl, cs, h, rfl⟩, Nat.le_refl _, fun _ A' _ h => ⟨A', h, Nat.le_refl _, fun _ => ⟨rfl, rfl, rfl, fun _ => rfl⟩⟩⟩
theorem getElem?_lt {α : Type} {a : Array α} {i : Nat} {o : α} (h : a[i]? = some o) : i < a.size := (Array.getElem?_eq_some_iff.1 h).1
theorem From.trans {w w' w'' : World} {M M' M'' : Mem} {E E' E'' : Emb} (h : From w M E w' M' E') (h' : From w' M' E' w'' M'' E'') : From w M E w'' M'' E'' := {
 os := h'.os.trans h.os
 tape := h'.tape.trans h.tape
 output := h'.output.trans h.output
 size := Nat.le_trans h.size h'.size
 keep := fun b o hb ho => h'.keep b o (fun hb' => (h.own b hb').elim hb (fun hs => absurd (getElem?_lt ho) (by omega))) (h.keep b o hb ho)
 own := fun b hb => (h'.own b hb).elim (h.own b) (fun hs => .inr (Nat.le_trans h.size hs))
 lenB := Nat.le_trans h.lenB h'.lenB
 bx := fun b cs hb => by
  obtain ⟨e1, cs1, h1, k1⟩ := h.bx b cs hb
  obtain ⟨e2, cs2, h2, k2⟩ := h'.bx b cs1 h1
  exact ⟨e2.trans e1, cs2, h2, k2.trans k1⟩
 lenA := Nat.le_trans h.lenA h'.lenA
 ar := fun k A'' hk hA => by
  obtain ⟨A', hA', hv', hr'⟩ := h'.ar k A'' (Nat.lt_of_lt_of_le hk h.lenA) hA
  obtain ⟨A, hA0, hv, hr⟩ := h.ar k A' hk hA'
  refine ⟨A, hA0, Nat.le_trans hv hv', fun he => ?_⟩
  obtain ⟨a1, a2, a3, a4⟩ := hr' (by omega)
  obtain ⟨b1, b2, b3, b4⟩ := hr (by omega)
  exact ⟨a1.trans b1, a2.trans b2, a3.trans b3, fun hn => (a4 (b1 ▸ hn)).trans (b4 hn)⟩ }
def away (X : Nat → Prop) (M : Mem) (E : Emb) (b : Nat) : Prop := X b ∨ owned M E b
theorem From.mono {X : Nat → Prop} {w w' : World} {M M' : Mem} {E E' : Emb} (h : From w M E w' M' E') :
  ∀ b o, ¬ away X M E b → w.heap[b]? = some o → w'.heap[b]? = some o ∧ ¬ away X M' E' b := by
 intro b o hb ho
 refine ⟨h.keep b o (fun hb' => hb (.inr hb')) ho, ?_⟩
 rintro (hx | hx)
 ·exact hb (.inl hx)
 ·rcases h.own b hx with hx | hx
  ·exact hb (.inr hx)
  ·have := getElem?_lt ho; omega
theorem RepD.from {X : Nat → Prop} {w w' : World} {M M' : Mem} {E E' : Emb} (h : From w M E w' M' E') {v : Value} {d : DV} (hr : RepD w (away X M E) v d) : RepD w' (away X M' E') v d :=
 hr.mono h.mono
theorem RepL.from {X : Nat → Prop} {w w' : World} {M M' : Mem} {E E' : Emb} (h : From w M E w' M' E') {v : List Value} {d : List DV} (hr : RepL w (away X M E) v d) : RepL w' (away X M' E') v d :=
 hr.mono h.mono
mutual
theorem Rep.from {X : Nat → Prop} {w w' : World} {M M' : Mem} {E E' : Emb} (hf : From w M E w' M' E') :
  ∀ {v : Value} {p : PV}, Rep w (away X M E) M E v p → Rep w' (away X M' E') M' E' v p
 | _, _, .d h => .d (h.from hf)
 | _, _, .ptr hl hb ho => by
   obtain ⟨e, cs', hl', k⟩ := hf.bx _ _ hl
   exact .ptr hl' (e.trans hb) (k.trans ho)
 | _, _, .mref hl hb ho => by
   obtain ⟨e, cs', hl', k⟩ := hf.bx _ _ hl
   exact .mref hl' (e.trans hb) (k.trans ho)
 | _, _, .yref hl hb ho => by
   obtain ⟨e, cs', hl', k⟩ := hf.bx _ _ hl
   exact .yref hl' (e.trans hb) (k.trans ho)
 | _, _, .iref hl hb ho => by
   obtain ⟨e, cs', hl', k⟩ := hf.bx _ _ hl
   exact .iref hl' (e.trans hb) (k.trans ho)
 | _, _, .eptr hlt h => .eptr (Nat.lt_of_lt_of_le hlt hf.lenA) fun A' hA' => by
   obtain ⟨A, hA, hle, hr⟩ := hf.ar _ A' hlt hA'
   obtain ⟨hv, h⟩ := h A hA
   refine ⟨by omega, fun he => ?_⟩
   obtain ⟨e1, e2, e3, e4⟩ := hr (by omega)
   obtain ⟨loc, hl, hi, ha⟩ := h (by omega)
   refine ⟨loc, e1.trans hl, e3 ▸ hi, ?_⟩
   cases loc with
   | none => simp only [e4 hl] at ha ⊢; exact ha.from hf
   | some q => obtain ⟨q1, q2, q3⟩ := q; simp only [e2] at ha ⊢; exact ha
 | _, _, .tsl hlt h => .tsl (Nat.lt_of_lt_of_le hlt hf.lenA) fun A' hA' => by
   obtain ⟨A, hA, hle, hr⟩ := hf.ar _ A' hlt hA'
   obtain ⟨hv, h⟩ := h A hA
   refine ⟨by omega, fun he => ?_⟩
   obtain ⟨e1, e2, e3, e4⟩ := hr (by omega)
   obtain ⟨loc, hl, hi, ha⟩ := h (by omega)
   refine ⟨loc, e1.trans hl, e3 ▸ hi, ?_⟩
   cases loc with
   | none => simp only [e4 hl] at ha ⊢; exact ha.from hf
   | some q => obtain ⟨q1, q2, q3⟩ := q; simp only [e2, e3] at ha ⊢; exact ha
 | _, _, .psl hlt h => .psl (Nat.lt_of_lt_of_le hlt hf.lenA) fun A' hA' => by
   obtain ⟨A, hA, hle, hr⟩ := hf.ar _ A' hlt hA'
   obtain ⟨hv, h⟩ := h A hA
   refine ⟨by omega, fun he => ?_⟩
   obtain ⟨e1, e2, e3, e4⟩ := hr (by omega)
   obtain ⟨loc, hl, hi, ha⟩ := h (by omega)
   refine ⟨loc, e1.trans hl, e3 ▸ hi, ?_⟩
   cases loc with
   | none => simp only [e4 hl] at ha ⊢; exact ha.from hf
   | some q => obtain ⟨q1, q2, q3⟩ := q; simp only [e2] at ha ⊢; exact ha
 | _, _, .dead => .dead
 | _, _, .func h1 h2 => .func (RepP.from hf h1) (RepP.from hf h2)
 | _, _, .agg h => .agg (RepP.from hf h)
 | _, _, .tup h => .tup (RepP.from hf h)
theorem RepP.from {X : Nat → Prop} {w w' : World} {M M' : Mem} {E E' : Emb} (hf : From w M E w' M' E') :
  ∀ {v : List Value} {p : List PV}, RepP w (away X M E) M E v p → RepP w' (away X M' E') M' E' v p
 | _, _, .nil => .nil
 | _, _, .cons h t => .cons (Rep.from hf h) (RepP.from hf t)
end
theorem RepP.notObj {w : World} {O : Nat → Prop} {M : Mem} {E : Emb} {vs : List Value} {cs : List PV} (h : RepP w O M E vs cs) : isObj cs = false := by
 unfold isObj
 split
 ·cases h with | cons h _ => cases h
 ·cases h with | cons h _ => cases h
 ·cases h with | cons h _ => cases h
 ·rfl
def BoxAt (w : World) (O : Nat → Prop) (M : Mem) (E : Emb) (blk : Nat) : List PV → Prop
 | [.mapc l] => ∃ (es : Array MapEntry) (clock : Nat), w.heap[blk]? = some (.map es clock) ∧ RepL w O (es.toList.map (·.key)) (l.map (·.1)) ∧ RepL w O (es.toList.map (·.val)) (l.map (·.2))
 | .loopc L :: cs => ∃ tmps : Array Value, tmps.size = L.tmps.size ∧ w.heap[blk]? = some (.loop { L with tmps := tmps }) ∧ RepP w O M E tmps.toList cs
 | [.sitr s pos] => w.heap[blk]? = some (.stringIter s pos)
 | cs => ∃ (vs : Array Value) (T : TypeId), w.heap[blk]? = some (.cells vs T (0, 0)) ∧ RepP w O M E vs.toList cs
theorem BoxAt.plain {w : World} {O : Nat → Prop} {M : Mem} {E : Emb} {blk : Nat} {cs : List PV} (ho : isObj cs = false) : BoxAt w O M E blk cs = ∃ (vs : Array Value) (T : TypeId), w.heap[blk]? = some (.cells vs T (0, 0)) ∧ RepP w O M E vs.toList cs := by
 unfold BoxAt
 split
 ·cases ho
 ·cases ho
 ·cases ho
 ·rfl
theorem BoxAt.mk {w : World} {O : Nat → Prop} {M : Mem} {E : Emb} {blk : Nat} {cs : List PV} {vs : Array Value} {T : TypeId} (h : w.heap[blk]? = some (.cells vs T (0, 0))) (hr : RepP w O M E vs.toList cs) : BoxAt w O M E blk cs := by
 rw [BoxAt.plain hr.notObj]; exact ⟨vs, T, h, hr⟩
theorem BoxAt.obj {w : World} {O : Nat → Prop} {M : Mem} {E : Emb} {blk : Nat} {cs : List PV} (h : BoxAt w O M E blk cs) : ∃ o, w.heap[blk]? = some o := by
 unfold BoxAt at h
 split at h
 ·obtain ⟨es, clock, h, _⟩ := h; exact ⟨_, h⟩
 ·obtain ⟨tmps, _, h, _⟩ := h; exact ⟨_, h⟩
 ·exact ⟨_, h⟩
 ·obtain ⟨vs, T, h, _⟩ := h; exact ⟨_, h⟩
theorem BoxAt.notObj {w : World} {O : Nat → Prop} {M : Mem} {E : Emb} {blk : Nat} {cs : List PV} {vs : Array Value} {T : TypeId} {fz : Nat × Nat} (h : BoxAt w O M E blk cs) (hg : w.heap[blk]? = some (.cells vs T fz)) : isObj cs = false := by
 unfold BoxAt at h
 split at h
 ·obtain ⟨es, clock, h, _⟩ := h; rw [hg] at h; cases h
 ·obtain ⟨tmps, _, h, _⟩ := h; rw [hg] at h; cases h
 ·rw [hg] at h; cases h
 ·obtain ⟨vs, T, h, hr⟩ := h; exact hr.notObj
theorem BoxAt.move {w w' : World} {O O' : Nat → Prop} {M M' : Mem} {E E' : Emb} {blk : Nat} {cs : List PV} (h : BoxAt w O M E blk cs) (hb : ∀ o, w.heap[blk]? = some o → w'.heap[blk]? = some o)
  (hk : ∀ b o, ¬ O b → w.heap[b]? = some o → w'.heap[b]? = some o ∧ ¬ O' b) (hr : ∀ (vs : List Value) (ps : List PV), (∀ p ∈ ps, p ∈ cs) → RepP w O M E vs ps → RepP w' O' M' E' vs ps) : BoxAt w' O' M' E' blk cs := by
 unfold BoxAt at h ⊢
 split at h
 ·obtain ⟨es, clock, h, h1, h2⟩ := h; exact ⟨es, clock, hb _ h, h1.mono hk, h2.mono hk⟩
 ·obtain ⟨tmps, h0, h, h1⟩ := h; exact ⟨tmps, h0, hb _ h, hr _ _ (fun p hp => by simp [hp]) h1⟩
 ·exact hb _ h
 ·obtain ⟨vs, T, h, h1⟩ := h; exact ⟨vs, T, hb _ h, hr _ _ (fun _ hp => hp) h1⟩
end Go.Am
namespace Go.Am
structure Ctx where
 P : Program
 low : Nat → Prop
 G : World → Prop
 keeps : ∀ w w' : World, G w → (∀ b, low b → w'.heap[b]? = w.heap[b]?) → G w'
structure Sim (C : Ctx) (X : Nat → Prop) (w : World) (M : Mem) (E : Emb) : Prop where
 glob : C.G w
 lowX : ∀ b, C.low b → X b
 xlt : ∀ b, X b → b < w.heap.size
 lenB : E.bx.length = M.boxes.length
 lenA : E.ar.length = M.arrs.length
 box : ∀ (b : Nat) (cs : List PV), M.boxes[b]? = some (some cs) → ∃ blk : Nat, E.bx[b]? = some blk ∧ ¬ X blk ∧ BoxAt w (away X M E) M E blk cs
 arr : ∀ (k : Nat) (A : Arr), M.arrs[k]? = some (some A) → 0 < A.sz ∧ (∀ x ∈ A.elems, x.fits A.sz = true) ∧ (A.st = 1 → ∃ q, E.ar[k]? = some (some q)) ∧
  ∀ (blk o e : Nat), E.ar[k]? = some (some (blk, o, e)) → ¬ X blk ∧ ∃ (vs : Array Value) (T : TM vs.size), w.heap[blk]? = some (.cells vs T.ty T.fr) ∧ o + A.elems.length * A.sz ≤ e ∧ e ≤ vs.size ∧
   RepL w (away X M E) ((vs.toList.drop o).take (A.elems.length * A.sz)) (flat A.elems)
 bb : ∀ (b b' : Nat) (cs cs' : List PV) (blk : Nat), M.boxes[b]? = some (some cs) → M.boxes[b']? = some (some cs') → E.bx[b]? = some blk → E.bx[b']? = some blk → b = b'
 aa : ∀ (k k' : Nat) (A A' : Arr) (blk o e o' e' : Nat), M.arrs[k]? = some (some A) → M.arrs[k']? = some (some A') → E.ar[k]? = some (some (blk, o, e)) → E.ar[k']? = some (some (blk, o', e')) → k = k'
 ba : ∀ (b k : Nat) (cs : List PV) (A : Arr) (blk o e : Nat), M.boxes[b]? = some (some cs) → M.arrs[k]? = some (some A) → E.bx[b]? = some blk → E.ar[k]? = some (some (blk, o, e)) → False
def Fin (C : Ctx) (X : Nat → Prop) (w : World) (M : Mem) (E : Emb) (K : PV → Mem → Prop) (KP : DV → Mem → Prop) (w' : World) : Ending → Prop
 | .returned v => ∃ p M' E', K p M' ∧ Sim C X w' M' E' ∧ From w M E w' M' E' ∧ Rep w' (away X M' E') M' E' v p
 | .panicked chain => ∃ v d M' E', chain = [{ v, recovered := false }] ∧ KP d M' ∧ Sim C X w' M' E' ∧ From w M E w' M' E' ∧ RepD w' (away X M' E') v d
 | .outgrown => False
def SC (C : Ctx) (f : FuncId) (args : List PV) (M : Mem) (K : PV → Mem → Prop) (KP : DV → Mem → Prop) : Prop :=
 ∀ (X : Nat → Prop) (w : World) (E : Emb) (vals : List Value), Sim C X w M E → RepP w (away X M E) M E vals args →
  Calls C.P f vals.toArray w fun e w' => Fin C X w M E K KP w' e
def noMem : Mem := ⟨[], [], []⟩
def rowsOf (as : List Arr) : Mem := ⟨[], [], as.map some⟩
def Pure (C : Ctx) (f : FuncId) (args : List DV) (r : PV) (as : List Arr) : Prop :=
 ∀ (X : Nat → Prop) (w : World) (vals : List Value), C.G w → (∀ b, C.low b → X b) → (∀ b, X b → b < w.heap.size) → RepL w X vals args →
  Calls C.P f vals.toArray w fun e w' => ∃ v E', e = .returned v ∧ Sim C X w' (rowsOf as) E' ∧ From w noMem ⟨[], []⟩ w' (rowsOf as) E' ∧ Rep w' (away X (rowsOf as) E') (rowsOf as) E' v r
def PureP (C : Ctx) (f : FuncId) (args : List DV) (d : DV) : Prop :=
 ∀ (X : Nat → Prop) (w : World) (vals : List Value), C.G w → (∀ b, C.low b → X b) → (∀ b, X b → b < w.heap.size) → RepL w X vals args →
  Calls C.P f vals.toArray w fun e w' => ∃ v, e = .panicked [{ v, recovered := false }] ∧ From w noMem ⟨[], []⟩ w' noMem ⟨[], []⟩ ∧ RepD w' X v d
def allD : List PV → Option (List DV)
 | [] => some []
 | .d x :: l => (allD l).map (x :: ·)
 | _ :: _ => none
def mkAgg (cs : List PV) : PV := match allD cs with | some ds => .d (.agg ds) | none => .agg cs
def mkTup (cs : List PV) : PV := match allD cs with | some ds => .d (.tup ds) | none => .tup cs
def splice {α : Type} (cs : List α) (off : Nat) (new : List α) : List α := cs.take off ++ new ++ cs.drop (off + new.length)
def setCells (x : DV) (off : Nat) (ds : List DV) : DV := match x with | .agg cs => .agg (splice cs off ds) | _ => ds.getD 0 default
def Mem.row (M : Mem) (k ver : Nat) : Option Arr := match M.arrs[k]? with | some (some A) => if A.ver = ver then some A else none | _ => none
def Mem.box (M : Mem) (b : Nat) : Option (List PV) := match M.boxes[b]? with | some (some cs) => some cs | _ => none
def datum0 (M : Mem) : PV → Option DV
 | .d x => some x
 | .tsl k ver skip => (M.row k ver).map fun A => .slice false (A.elems.drop skip)
 | .mref b => match M.box b with | some [.mapc l] => some (.map (some l)) | _ => none
 | _ => none
def datum0L (M : Mem) : List PV → Option (List DV)
 | [] => some []
 | c :: cs => match datum0 M c, datum0L M cs with | some x, some xs => some (x :: xs) | _, _ => none
def datum (M : Mem) : PV → Option DV
 | .d x => some x
 | .tsl k ver skip => (M.row k ver).map fun A => .slice false (A.elems.drop skip)
 | .ptr b off => match M.box b with | some cs => (datum0L M cs).map fun ds => .cptr (ds.drop off) | none => none
 | .func fn f c => match datum0L M f, datum0L M c with | some df, some dc => some (.func fn df dc) | _, _ => none
 | .agg cs => (datum0L M cs).map .agg
 | .tup cs => (datum0L M cs).map .tup
 | .mref b => match M.box b with | some [.mapc l] => some (.map (some l)) | _ => none
 | _ => none
def refsA0 : PV → List Nat | .tsl k _ _ => [k] | _ => []
def refsA (M : Mem) : PV → List Nat
 | .tsl k _ _ => [k]
 | .ptr b _ => match M.box b with | some cs => cs.flatMap refsA0 | none => []
 | .func _ f c => f.flatMap refsA0 ++ c.flatMap refsA0
 | .agg cs => cs.flatMap refsA0
 | .tup cs => cs.flatMap refsA0
 | _ => []
def refsB0 : PV → List Nat | .mref b => [b] | _ => []
def refsB (M : Mem) : PV → List Nat
 | .ptr b _ => b :: (match M.box b with | some cs => cs.flatMap refsB0 | none => [])
 | .func _ f c => f.flatMap refsB0 ++ c.flatMap refsB0
 | .agg cs => cs.flatMap refsB0
 | .tup cs => cs.flatMap refsB0
 | .mref b => [b]
 | _ => []
def frzA (ks : List Nat) (l : List (Option Arr)) : List (Option Arr) := ks.foldl (fun l k => l.modify k (Option.map fun A => { A with st := 2 })) l
def Mem.frz (M : Mem) (ps : List PV) : Mem := { M with fz := ps.flatMap (refsB M) ++ M.fz, arrs := frzA (ps.flatMap (refsA M)) M.arrs }
def datumL (M : Mem) : List PV → Option (List DV)
 | [] => some []
 | c :: cs => match datum M c, datumL M cs with | some x, some xs => some (x :: xs) | _, _ => none
def DV.strip : DV → DV
 | .slice _ xs => .slice false xs
 | .agg cs => .agg (cs.map fun | .slice _ xs => .slice false xs | c => c)
 | x => x
def shift0 (n : Nat) : PV → PV
 | .d x => .d x
 | .tsl k ver skip => .tsl (n + k) ver skip
 | _ => .dead
def shift1 (n : Nat) : PV → PV
 | .agg cs => .agg (cs.map (shift0 n))
 | p => shift0 n p
def PV.shift (n : Nat) : PV → PV
 | .agg cs => .agg (cs.map (shift0 n))
 | .tup cs => .tup (cs.map (shift1 n))
 | p => shift0 n p
inductive POp where
 | mov
 | asgG (sz : Nat)
 | pick
 | alloc (i : Nat) (zs : List DV)
 | box (i : Nat)
 | build (zs : List DV) (ps : List (Nat × Nat))
 | mkSl (sz : Nat) (zs : List DV) (ps : List Nat)
 | load (agg : Bool) (n : Nat)
 | loadP (agg : Bool) (n : Nat)
 | store (n : Nat)
 | nilck
 | bin (op : BinOp)
 | binA (neq : Bool) (ks : List Nat)
 | binB (neq : Bool)
 | isNil (neq : Bool)
 | un (op : UnOp)
 | conv (k : IntKind)
 | mkI (t : TypeId)
 | mkF (fn : Fn) (nf : Nat)
 | slcS (lo hi : Bool)
 | slcD (sz : Nat) (lo hi max : Bool)
 | fld (off : Nat)
 | fldv (agg : Bool) (off n : Nat)
 | idxA (sz : Nat)
 | idxS
 | idxV (agg : Bool) (sz len : Nat)
 | ext (i : Nat)
 | call (f : FuncId)
 | pcall (f : FuncId)
 | pcallF (f : FuncId)
 | pcallD (f : FuncId)
 | callV
 | app (sz : Nat) (st1 : Bool)
 | appF (sz : Nat)
 | len
 | lenS
 | lenC (n : Nat)
 | minmax (mx : Bool)
 | panic
 | mlook (ks : List Nat) (z : DV)
 | mkRow (sz : Nat) (z : DV)
 | b2s
 | s2b
 | clr (sz : Nat) (z : DV)
 | tas (t : TypeId) (z : DV)
 | mkMap (i : Nat)
 | mset (ks : List Nat)
 | mkSlR (sz : Nat) (zs : List DV) (ps : List Nat)
 | slcP (sz : Nat)
 | slcL (sz : Nat)
 | copy (sz : Nat)
 | isNilI (neq : Bool)
 | rngS (i : Nat)
 | nxtS
 | inv (name : String)
 | shf (op : BinOp)
 deriving Inhabited
inductive Opd where
 | t (n : Nat)
 | c (x : DV)
 deriving Inhabited
structure PO where
 dst : Option Nat
 op : POp
 args : List Opd
 g : Option (Nat × Bool)
 fl : Nat
 deriving Inhabited
inductive PCode where
 | skip
 | region (draw : Bool) (ops : List PO) (nres : Nat) (keep fz : List Nat)
 | seq (a b : PCode)
 | cond (c : Opd) (thn els : PCode)
 | block (id : Nat) (body : PCode)
 | loop (body : PCode)
 | exit (id : Nat)
 | scope (body : PCode)
 | label (l : Nat)
 | ret
 | rangeF (f : Opd) (ps keys : List Nat) (asg body : PCode)
 deriving Inhabited
structure St where
 env : List (Nat × PV)
 mem : Mem
def look : List (Nat × PV) → Nat → PV
 | [], _ => .dead
 | (k, v) :: l, t => bif k == t then v else look l t
def St.get (s : St) (t : Nat) : PV := look s.env t
def St.val (s : St) : Opd → PV | .t n => look s.env n | .c x => .d x
def put (l : List (Nat × PV)) (dst : Option Nat) (v : PV) : List (Nat × PV) := match dst with | some d => (d, v) :: l | none => l
def keepEnv (l : List (Nat × PV)) (ks : List Nat) : List (Nat × PV) := ks.map fun k => (k, look l k)
def PV.isDead : PV → Bool | .dead => true | _ => false
def PV.isAgg : PV → Bool | .agg _ => true | .d (.agg _) => true | _ => false
def fillC (cs : List PV) : List (Nat × Nat) → List PV → Option (List PV)
 | [], [] => some cs
 | (off, n) :: ps, v :: vs => if v.isDead = false ∧ v.cells.length = n ∧ off + n ≤ cs.length then fillC (splice cs off v.cells) ps vs else none
 | _, _ => none
def fillS (sz : Nat) (xs : List DV) : List Nat → List DV → Option (List DV)
 | [], [] => some xs
 | i :: is, v :: vs => if v.cells.length = sz ∧ i < xs.length then fillS sz (xs.set i v) is vs else none
 | _, _ => none
def binInt (op : BinOp) (k : IntKind) (a b : Int) (K : DV → Prop) : Prop :=
 match op with
 | .add => K (.int k (k.wrap (a + b)))
 | .sub => K (.int k (k.wrap (a - b)))
 | .mul => K (.int k (k.wrap (a * b)))
 | .quo => b ≠ 0 ∧ K (.int k (k.wrap (a.tdiv b)))
 | .rem => b ≠ 0 ∧ K (.int k (a.tmod b))
 | .eql => K (.bool (a == b))
 | .neq => K (.bool (a != b))
 | .lss => K (.bool (decide (a < b)))
 | .leq => K (.bool (decide (a ≤ b)))
 | .gtr => K (.bool (decide (a > b)))
 | .geq => K (.bool (decide (a ≥ b)))
 | .and => K (.int k (k.wrap ((BitVec.ofInt k.bits a &&& BitVec.ofInt k.bits b).toNat : Int)))
 | .or => K (.int k (k.wrap ((BitVec.ofInt k.bits a ||| BitVec.ofInt k.bits b).toNat : Int)))
 | .xor => K (.int k (k.wrap ((BitVec.ofInt k.bits a ^^^ BitVec.ofInt k.bits b).toNat : Int)))
 | .andNot => K (.int k (k.wrap ((BitVec.ofInt k.bits a &&& ~~~BitVec.ofInt k.bits b).toNat : Int)))
 | _ => False
def binStr (op : BinOp) (a b : ByteArray) (K : DV → Prop) : Prop :=
 match op with
 | .add => a.size + b.size ≤ 9223372036854775807 ∧ K (.str (a ++ b))
 | .eql => K (.bool (a.toList == b.toList))
 | .neq => K (.bool (!(a.toList == b.toList)))
 | _ => False
def binDV (op : BinOp) (x y : PV) (K : DV → Prop) : Prop :=
 match x, y with
 | .d (.int k a), .d (.int k' b) => k = k' ∧ binInt op k a b K
 | .d (.str a), .d (.str b) => binStr op a b K
 | _, _ => False
def cellsEq : List Nat → List DV → List DV → Option Bool
 | [], [], [] => some true
 | 1 :: ks, .int k a :: l, .int k' b :: m => if k = k' then (cellsEq ks l m).map fun t => (a == b) && t else none
 | 0 :: ks, .bool a :: l, .bool b :: m => (cellsEq ks l m).map fun t => (a == b) && t
 | 2 :: ks, .str a :: l, .str b :: m => (cellsEq ks l m).map fun t => (a.toList == b.toList) && t
 | _, _, _ => none
def mlookL (ks : List Nat) : List (DV × DV) → List DV → Option (Option DV)
 | [], _ => some none
 | (.agg k', v) :: l, k => match cellsEq ks k k' with | some true => some (some v) | some false => mlookL ks l k | none => none
 | _ :: _, _ => none
def mputL (ks : List Nat) : List (DV × DV) → List DV → DV → Option (List (DV × DV))
 | [], k, v => some [(.agg k, v)]
 | (.agg k', v') :: l, k, v => match cellsEq ks k k' with | some true => some ((.agg k, v) :: l) | some false => (mputL ks l k v).map ((.agg k', v') :: ·) | none => none
 | _ :: _, _, _ => none
def bytesOf : List DV → Option (List UInt8)
 | [] => some []
 | .int .u8 n :: l => (bytesOf l).map (UInt8.ofNat n.toNat :: ·)
 | _ :: _ => none
def unDV (op : UnOp) (x : PV) (K : DV → Prop) : Prop :=
 match op, x with
 | .neg, .d (.int k n) => K (.int k (k.wrap (0 - n)))
 | .not, .d (.bool b) => K (.bool !b)
 | _, _ => False
def ld (agg : Bool) (n off : Nat) (cs : List PV) : PV := bif agg then mkAgg ((cs.drop off).take n) else cs.getD off .dead
def ldD (agg : Bool) (n off : Nat) (cs : List DV) : PV := .d (bif agg then .agg ((cs.drop off).take n) else cs.getD off default)
def runLoad (agg : Bool) (n : Nat) (x : PV) (M : Mem) (K : PV → Prop) : Prop :=
 match x with
 | .ptr b off => match M.box b with | some cs => off + n ≤ cs.length ∧ K (ld agg n off cs) | none => False
 | .d (.cptr cs) => n ≤ cs.length ∧ K (ldD agg n 0 cs)
 | .eptr k ver i off => match M.row k ver with
  | some A => off + n ≤ (A.elems.getD i default).cells.length ∧ K (ldD agg n off (A.elems.getD i default).cells)
  | none => False
 | _ => False
def runLoadP (agg : Bool) (n : Nat) (x : PV) (M : Mem) (K : PV → Prop) : Prop :=
 match x with
 | .ptr b off => match M.box b with | some cs => off + n ≤ cs.length ∧ K (ld agg n off cs) | none => False
 | .d (.cptr cs) => n ≤ cs.length ∧ K (ldD agg n 0 cs)
 | _ => False
def runStore (n : Nat) (x v : PV) (M : Mem) (K : Mem → Prop) : Prop :=
 match x with
 | .ptr b off => match M.box b with
  | some cs => b ∉ M.fz ∧ v.cells.length = n ∧ v.cells.all PV.one = true ∧ off + n ≤ cs.length ∧ K { M with boxes := M.boxes.set b (some (splice cs off v.cells)) }
  | none => False
 | .eptr k ver i off => match M.row k ver, allD v.cells with
  | some A, some ds => A.st = 1 ∧ 0 < n ∧ ds.length = n ∧ ds.all DV.one = true ∧ off + n ≤ (A.elems.getD i default).cells.length ∧
    K { M with arrs := M.arrs.set k (some { A with elems := A.elems.set i (setCells (A.elems.getD i default) off ds) }) }
  | _, _ => False
 | _ => False
def runLen (x : PV) (M : Mem) (K : Int → Prop) : Prop :=
 match x with
 | .d (.slice _ xs) => K xs.length
 | .tsl k ver skip => match M.row k ver with | some A => K ((A.elems.length - skip : Nat) : Int) | none => False
 | _ => False
def runIdxA (sz : Nat) (x i : PV) (M : Mem) (K : PV → Prop) : Prop :=
 match x, i with
 | .d (.slice _ xs), .d (.int _ n) => 0 ≤ n ∧ n.toNat < xs.length ∧ (xs.getD n.toNat default).cells.length = sz ∧ K (.d (.cptr (xs.getD n.toNat default).cells))
 | .tsl k ver skip, .d (.int _ n) => match M.row k ver with
  | some A => A.sz = sz ∧ 0 ≤ n ∧ skip + n.toNat < A.elems.length ∧ K (.eptr k ver (skip + n.toNat) 0)
  | none => False
 | _, _ => False
def runFld (off : Nat) (x : PV) (M : Mem) (K : PV → Prop) : Prop :=
 match x with
 | .ptr b o => K (.ptr b (o + off))
 | .d (.cptr cs) => off ≤ cs.length ∧ K (.d (.cptr (cs.drop off)))
 | .eptr k ver i o => match M.row k ver with | some _ => K (.eptr k ver i (o + off)) | none => False
 | _ => False
def appd (sz : Nat) (x : PV) (M : Mem) : Option (List DV) :=
 match x with
 | .d (.slice _ xs) => some xs
 | .d (.str s) => if sz = 1 then some (s.data.toList.map fun b => .int .u8 b.toNat) else none
 | .tsl k ver skip => (M.row k ver).map fun A => A.elems.drop skip
 | _ => none
def runApp (sz : Nat) (st1 : Bool) (s x : PV) (M : Mem) (K : PV → Mem → Prop) : Prop :=
 match appd sz x M with
 | none => False
 | some ys => 0 < sz ∧ (∀ y ∈ ys, y.fits sz = true) ∧ (st1 = true → ys ≠ []) ∧
  match s with
  | .d (.slice ex xs) => ex = true ∧ (∀ y ∈ xs, y.fits sz = true) ∧ xs.length + ys.length ≤ 1073741824 ∧
    K (.tsl M.arrs.length 0 0) { M with arrs := M.arrs ++ [some ⟨sz, xs ++ ys, 0, bif st1 then 1 else 0⟩] }
  | .tsl k ver skip => match M.row k ver with
   | some A => A.sz = sz ∧ A.st ≠ 2 ∧ A.elems.length + ys.length ≤ 1073741824 ∧
     K (.tsl k (ver + 1) 0) { M with arrs := M.arrs.set k (some ⟨sz, A.elems.drop skip ++ ys, ver + 1, bif st1 then 1 else A.st⟩) }
   | none => False
  | _ => False
def optInt : Bool → List PV → (Option Int → List PV → Prop) → Prop
 | false, l, K => K none l
 | true, .d (.int _ n) :: l, K => K (some n) l
 | _, _, _ => False
def runSlcS (lo hi : Bool) (args : List PV) (K : DV → Prop) : Prop :=
 match args with
 | .d (.str s) :: l => optInt lo l fun a l => optInt hi l fun b l => optInt false l fun m l => l = [] ∧ m = none ∧
   0 ≤ a.getD 0 ∧ a.getD 0 ≤ b.getD s.size ∧ b.getD s.size ≤ s.size ∧ K (.str (s.extract (a.getD 0).toNat (b.getD s.size).toNat))
 | _ => False
def runSlcD (sz : Nat) (lo hi max : Bool) (args : List PV) (M : Mem) (K : PV → Mem → Prop) : Prop :=
 match args with
 | .d (.slice ex xs) :: l => optInt lo l fun a l => optInt hi l fun b l => optInt max l fun m l => l = [] ∧ (∀ x ∈ xs, x.cells.length = sz) ∧
   0 ≤ a.getD 0 ∧ a.getD 0 ≤ b.getD xs.length ∧ b.getD xs.length ≤ xs.length ∧ (∀ m', m = some m' → b = some m') ∧
   K (.d (.slice (max || (ex && !hi)) ((xs.take (b.getD xs.length).toNat).drop (a.getD 0).toNat))) M
 | .tsl k ver skip :: l => optInt lo l fun a l => optInt hi l fun b l => optInt max l fun m l => l = [] ∧
   match M.row k ver with
   | some A => (match b with
    | none => A.sz = sz ∧ m = none ∧ 0 ≤ a.getD 0 ∧ a.getD 0 ≤ (A.elems.length - skip : Nat) ∧ K (.tsl k ver (skip + (a.getD 0).toNat)) M
    | some b => A.sz = sz ∧ 0 ≤ a.getD 0 ∧ a.getD 0 ≤ b ∧ b ≤ (A.elems.length - skip : Nat) ∧ (∀ m', m = some m' → b = m') ∧
      K (.d (.slice max (((A.elems.drop skip).take b.toNat).drop (a.getD 0).toNat))) (M.frz [.tsl k ver skip]))
   | none => False
 | _ => False
def methodRow (P : Program) (t : TypeId) (name : String) : Option FuncId :=
 match P.info? t with
 | some i => match i.methods.find? (·.name == name) with
  | some m => if m.path.isEmpty then (match P.underlying t with | some (.pointer _) => none | some _ => (match m.func with | some (f, false) => some f | _ => none) | none => none) else none
  | none => none
 | none => none
def callable (P : Program) (f : FuncId) : Bool :=
 match P.funcs[f]? with
 | some fn => fn.body.isSome && !(fn.name == "runtime.NumGoroutine")
 | none => false
def isFlat : DV → Bool
 | .int _ _ => true
 | .bool _ => true
 | .str _ => true
 | .nilPtr => true
 | .nilIface => true
 | .nilFunc => true
 | .agg cs => cs.all fun | .int _ _ => true | .bool _ => true | .str _ => true | _ => false
 | .tup cs => cs.all fun | .int _ _ => true | .bool _ => true | .str _ => true | .agg cs => (cs.all fun | .int _ _ => true | .bool _ => true | .str _ => true | _ => false) | _ => false
 | _ => false
def runPure (C : Ctx) (f : FuncId) (args : List PV) (M : Mem) (K : PV → Mem → Prop) : Prop :=
 ∃ ds, datumL M args = some ds ∧ ∃ r as, Pure C f (ds.map DV.strip) r as ∧
  ((∃ x, r = .d x ∧ isFlat x = true ∧ as = [] ∧ K r M) ∨ ((∀ A ∈ as, A.st ≠ 2) ∧ K (r.shift M.arrs.length) { M.frz args with arrs := (M.frz args).arrs ++ as.map some }))
def runPureF (C : Ctx) (f : FuncId) (args : List PV) (M : Mem) (K : PV → Mem → Prop) : Prop :=
 ∃ ds, datumL M args = some ds ∧ ∃ x, Pure C f (ds.map DV.strip) (.d x) [] ∧ isFlat x = true ∧ K (.d x) M
def runPureD (C : Ctx) (f : FuncId) (args : List PV) (M : Mem) (K : PV → Mem → Prop) : Prop :=
 ∃ ds, allD args = some ds ∧ ∃ x, Pure C f (ds.map DV.strip) (.d x) [] ∧ K (.d x) M
def SY (C : Ctx) (b : Nat) (args : List PV) (M : Mem) (K : PV → Mem → Prop) (KP : DV → Mem → Prop) : Prop :=
 ∀ (X : Nat → Prop) (w : World) (E : Emb) (vals : List Value) (l : Nat), Sim C X w M E → RepP w (away X M E) M E vals args → E.bx[b]? = some l →
  ∃ fn tmps as body, (Instr.yield l vals.toArray).run C.P w = .ok (.round l fn tmps as body) w ∧ RoundIn Fence.wide 0 C.P l fn tmps as body w fun e w' => Fin C X w M E K KP w' e
def srcOf (x : PV) (M : Mem) : Option (List DV) :=
 match x with
 | .d (.slice _ xs) => some xs
 | .tsl k ver skip => (M.row k ver).map fun A => A.elems.drop skip
 | .psl k ver skip len => (M.row k ver).map fun A => (A.elems.drop skip).take len
 | _ => none
def PV.isD : PV → Bool | .d _ => true | _ => false
def flOK (base fl : Nat) (args : List PV) : Prop :=
 match fl with
 | 0 => True
 | 1 => args.all PV.isD = true
 | 2 => match args with | .ptr b _ :: _ => b < base | .d _ :: _ => True | _ => False
 | 3 => match args with | .eptr _ _ _ _ :: _ => True | _ => False
 | i + 4 => match args with | .ptr b _ :: _ => b = base + i | _ => False
def runOp (C : Ctx) (base : Nat) (op : POp) (args : List PV) (M : Mem) (K : PV → Mem → Prop) (KP : DV → Mem → Prop) : Prop :=
 match op with
 | .mov => match args with | [x] => K x M | _ => False
 | .asgG sz => match args with
  | [.d (.slice ex xs)] => ex = true ∧ 0 < sz ∧ (∀ e ∈ xs, e.fits sz = true) ∧ K (.tsl M.arrs.length 0 0) { M with arrs := M.arrs ++ [some ⟨sz, xs, 0, 0⟩] }
  | [.tsl k ver skip] => K (.tsl k ver skip) M
  | _ => False
 | .pick => match args with | [.d (.bool t), a, b] => K (bif t then a else b) M | _ => False
 | .alloc i zs => match args with | [] => M.boxes[base + i]? = some none ∧ K (.ptr (base + i) 0) { M with boxes := M.boxes.set (base + i) (some (zs.map .d)) } | _ => False
 | .box i => match args with | [x] => x.isDead = false ∧ M.boxes[base + i]? = some none ∧ K (.ptr (base + i) 0) { M with boxes := M.boxes.set (base + i) (some x.cells) } | _ => False
 | .build zs ps => (match fillC (zs.map .d) ps args with | some cs => K (mkAgg cs) M | none => False)
 | .mkSl sz zs is => (match datumL M args with | some ds => (match fillS sz zs is (ds.map DV.strip) with | some xs => K (.d (.slice true xs)) (M.frz args) | none => False) | none => False)
 | .load agg n => match args with | [x] => runLoad agg n x M fun v => K v M | _ => False
 | .loadP agg n => match args with | [x] => runLoadP agg n x M fun v => K v M | _ => False
 | .store n => match args with | [x, v] => runStore n x v M fun M' => K .dead M' | _ => False
 | .nilck => match args with
  | [.ptr b o] => K (.ptr b o) M
  | [.d (.cptr cs)] => K (.d (.cptr cs)) M
  | _ => False
 | .bin op => match args with | [x, y] => binDV op x y fun v => K (.d v) M | _ => False
 | .binA neq ks => match args with | [.d (.agg a), .d (.agg b)] => (match cellsEq ks a b with | some t => K (.d (.bool (t != neq))) M | none => False) | _ => False
 | .binB neq => match args with | [.d (.bool a), .d (.bool b)] => K (.d (.bool ((a == b) != neq))) M | _ => False
 | .isNil neq => match args with | [.d (.slice _ xs), .d (.slice true [])] => (xs ≠ [] → K (.d (.bool neq)) M) ∧ (xs = [] → ∀ b, K (.d (.bool b)) M) | _ => False
 | .un op => match args with | [x] => unDV op x fun v => K (.d v) M | _ => False
 | .conv k => match args with | [.d (.int _ n)] => K (.d (.int k (k.wrap n))) M | _ => False
 | .mkI t => match args with | [x] => (match datum M x with | some d => K (.d (.iface t d)) (M.frz [x]) | none => False) | _ => False
 | .mkF fn nf => (match allD args with | some ds => K (.d (.func fn (ds.take nf) (ds.drop nf))) M | none => K (.func fn (args.take nf) (args.drop nf)) M)
 | .slcS lo hi => runSlcS lo hi args fun v => K (.d v) M
 | .slcD sz lo hi max => runSlcD sz lo hi max args M K
 | .fld off => match args with | [x] => runFld off x M fun v => K v M | _ => False
 | .fldv agg off n => match args with | [x] => x.isAgg = true ∧ off + n ≤ x.cells.length ∧ K (ld agg n off x.cells) M | _ => False
 | .idxA sz => match args with | [x, i] => runIdxA sz x i M fun v => K v M | _ => False
 | .idxS => match args with | [.d (.str s), .d (.int _ n)] => 0 ≤ n ∧ n.toNat < s.size ∧ K (.d (.int .u8 (s.data.getD n.toNat 0).toNat)) M | _ => False
 | .idxV agg sz len => match args with | [x, .d (.int _ n)] => x.isAgg = true ∧ 0 ≤ n ∧ n < len ∧ n.toNat * sz + sz ≤ x.cells.length ∧ K (ld agg sz (n.toNat * sz) x.cells) M | _ => False
 | .ext i => match args with
  | [.d (.tup vs)] => (match vs[i]? with | some v => K (.d v) M | none => False)
  | [.tup vs] => (match vs[i]? with | some v => K v M | none => False)
  | _ => False
 | .call f => SC C f args M K KP
 | .pcall f => runPure C f args M K
 | .pcallF f => runPureF C f args M K
 | .pcallD f => runPureD C f args M K
 | .callV => match args with
  | .d (.func (.func f) fs cs) :: args => callable C.P f = true ∧ SC C f (fs.map .d ++ args ++ cs.map .d) M K KP
  | .func (.func f) fs cs :: args => callable C.P f = true ∧ SC C f (fs ++ args ++ cs) M K KP
  | .yref b :: args => SY C b args M K KP
  | _ => False
 | .app sz st1 => match args with | [s, x] => runApp sz st1 s x M K | _ => False
 | .appF sz => match args with | [s, x] => runApp sz false s x M fun v M' => ∃ d, datum M' v = some d ∧ K (.d d) (M'.frz [v]) | _ => False
 | .len => match args with | [x] => runLen x M fun n => K (.d (.int .i64 n)) M | _ => False
 | .lenS => match args with | [.d (.str s)] => K (.d (.int .i64 s.size)) M | _ => False
 | .lenC n => K (.d (.int .i64 n)) M
 | .minmax mx => match args with | [.d (.int k a), .d (.int _ b)] => K (.d (.int k (bif mx then (if b > a then b else a) else (if b < a then b else a)))) M | _ => False
 | .panic => match args with | [x] => (match datum M x with | some (.iface t d) => KP (.iface t d) (M.frz [x]) | _ => False) | _ => False
 | .mlook ks z => match args with | [.d (.map (some l)), .d (.agg k)] => (match cellsEq ks k k, mlookL ks l k with | some true, some r => K (.d (r.getD z)) M | _, _ => False) | _ => False
 | .mkRow sz z => match args with
  | [.d (.int _ n), .d (.int _ m)] => n = m ∧ 0 ≤ n ∧ n ≤ 1048576 ∧ 0 < sz ∧ z.fits sz = true ∧ K (.tsl M.arrs.length 0 0) { M with arrs := M.arrs ++ [some ⟨sz, List.replicate n.toNat z, 0, 1⟩] }
  | _ => False
 | .s2b => match args with | [.d (.str s)] => K (.tsl M.arrs.length 0 0) { M with arrs := M.arrs ++ [some ⟨1, s.data.toList.map fun b => .int .u8 b.toNat, 0, 1⟩] } | _ => False
 | .b2s => match args with | [x] => (match appd 0 x M with | some xs => (match bytesOf xs with | some l => K (.d (.str ⟨l.toArray⟩)) M | none => False) | none => False) | _ => False
 | .clr sz z => match args with
  | [.tsl k ver skip] => (match M.row k ver with
   | some A => A.st = 1 ∧ A.sz = sz ∧ z.fits sz = true ∧ K (.d (.tup [])) { M with arrs := M.arrs.set k (some { A with elems := A.elems.take skip ++ List.replicate (A.elems.length - skip) z }) }
   | none => False)
  | _ => False
 | .tas t z => match args with | [.d (.iface t' v)] => K (.d (.tup [if t' = t then v else z, .bool (decide (t' = t))])) M | _ => False
 | .slcL sz => match args with
  | [.tsl k ver skip, .d (.int _ n)] => (match M.row k ver with
   | some A => A.sz = sz ∧ 0 ≤ n ∧ n ≤ (A.elems.length - skip : Nat) ∧ K (.tsl k ver (skip + n.toNat)) M
   | none => False)
  | _ => False
 | .slcP sz => match args with
  | [.tsl k ver skip, .d (.int _ n)] => (match M.row k ver with
   | some A => A.sz = sz ∧ 0 ≤ n ∧ n ≤ (A.elems.length - skip : Nat) ∧ K (.psl k ver skip n.toNat) M
   | none => False)
  | _ => False
 | .copy sz => match args with
  | [.tsl k ver skip, x] => (match M.row k ver, srcOf x M with
   | some A, some ys => A.st = 1 ∧ A.sz = sz ∧ (∀ y ∈ ys, y.fits sz = true) ∧
     K (.d (.int .i64 (min ys.length (A.elems.length - skip) : Nat))) { M with arrs := M.arrs.set k (some { A with elems := A.elems.take skip ++ (ys.take (A.elems.length - skip) ++ A.elems.drop (skip + ys.length)) }) }
   | _, _ => False)
  | _ => False
 | .isNilI neq => match args with
  | [.d (.iface _ _), .d .nilIface] => K (.d (.bool neq)) M
  | [.d .nilIface, .d .nilIface] => K (.d (.bool !neq)) M
  | _ => False
 | .rngS i => match args with | [.d (.str s)] => M.boxes[base + i]? = some none ∧ K (.iref (base + i)) { M with boxes := M.boxes.set (base + i) (some [.sitr s 0]) } | _ => False
 | .nxtS => match args with
  | [.iref b] => (match M.box b with
   | some [.sitr s pos] => b ∉ M.fz ∧ (if pos < s.size then K (.d (.tup [.bool true, .int .i64 pos, .int .i32 (Utf8.decode s pos).1])) { M with boxes := M.boxes.set b (some [.sitr s (pos + (Utf8.decode s pos).2)]) } else K (.d (.tup [.bool false])) M)
   | _ => False)
  | _ => False
 | .inv name => match args with
  | .d (.iface t v) :: rest => ∃ f, methodRow C.P t name = some f ∧ callable C.P f = true ∧ SC C f (.d v :: rest) M K KP
  | _ => False
 | .shf op => match args with
  | [.d (.int k a), .d (.int _ b)] => 0 ≤ b ∧ (match op with | .shl => K (.d (.int k (k.wrap (a * 2 ^ min b.toNat k.bits)))) M | .shr => K (.d (.int k (a.fdiv (2 ^ min b.toNat k.bits)))) M | _ => False)
  | _ => False
 | .mkMap i => match args with | [] => M.boxes[base + i]? = some none ∧ K (.mref (base + i)) { M with boxes := M.boxes.set (base + i) (some [.mapc []]) } | _ => False
 | .mset ks => match args with
  | [.mref b, .d (.agg k), .d v] => (match M.box b with
   | some [.mapc l] => b ∉ M.fz ∧ (match cellsEq ks k k, mputL ks l k v with | some true, some l' => K .dead { M with boxes := M.boxes.set b (some [.mapc l']) } | _, _ => False)
   | _ => False)
  | _ => False
 | .mkSlR sz zs is => match allD args with
  | some ds => (match fillS sz zs is (ds.map DV.strip) with
   | some xs => 0 < sz ∧ (∀ x ∈ xs, x.fits sz = true) ∧ K (.tsl M.arrs.length 0 0) { M with arrs := M.arrs ++ [some ⟨sz, xs, 0, 1⟩] }
   | none => False)
  | none => False
def runPO (C : Ctx) (base : Nat) (o : PO) (K : St → Prop) (KP : DV → Mem → Prop) (s : St) : Prop :=
 match o.g with
 | none => flOK base o.fl (o.args.map s.val) ∧ runOp C base o.op (o.args.map s.val) s.mem (fun v M => K ⟨put s.env o.dst v, M⟩) KP
 | some (t, want) => match look s.env t with
  | .d (.bool x) => (x = want → flOK base o.fl (o.args.map s.val) ∧ runOp C base o.op (o.args.map s.val) s.mem (fun v M => K ⟨put s.env o.dst v, M⟩) KP) ∧ (x = !want → K ⟨put s.env o.dst (.d (.tup [])), s.mem⟩)
  | .d (.tup []) => K ⟨put s.env o.dst (.d (.tup [])), s.mem⟩
  | _ => False
def runPOs (C : Ctx) (base : Nat) : List PO → (St → Prop) → (DV → Mem → Prop) → St → Prop
 | [], K, _, s => K s
 | o :: os, K, KP, s => runPO C base o (fun s' => runPOs C base os K KP s') KP s
def frzSt : List Nat → (St → Prop) → St → Prop
 | [], K, s => K s
 | t :: ts, K, s => match datum s.mem (look s.env t) with
  | some d => frzSt ts K ⟨(t, .d d) :: s.env, s.mem.frz [look s.env t]⟩
  | none => False
inductive Ex where
 | normal
 | exit (id : Nat)
 | ret
 | panic (d : DV)
mutual
def PV.upto (n m : Nat) : PV → Bool
 | .d _ => true
 | .ptr b _ => b < n
 | .eptr k _ _ _ => k < m
 | .tsl k _ _ => k < m
 | .psl k _ _ _ => k < m
 | .func _ f c => uptoL n m f && uptoL n m c
 | .agg cs => uptoL n m cs
 | .tup cs => uptoL n m cs
 | .dead => true
 | .mref b => b < n
 | .yref b => b < n
 | .iref b => b < n
 | .sitr _ _ => true
 | .mapc _ => true
 | .loopc _ => true
def uptoL (n m : Nat) : List PV → Bool
 | [] => true
 | c :: cs => PV.upto n m c && uptoL n m cs
end
def Weak (nb na : Nat) (s s' : St) : Prop :=
 s' = s ∨ ∃ n m, nb ≤ n ∧ na ≤ m ∧ s'.mem = ⟨s.mem.boxes.take n, s.mem.fz.filter (fun b => decide (b < n)), s.mem.arrs.take m⟩ ∧
  (∀ t, look s'.env t = .dead ∨ (look s'.env t = look s.env t ∧ (look s'.env t).upto n m = true)) ∧
  ∀ cs ∈ s'.mem.boxes, ∀ c ∈ cs.getD [], c.upto n m = true
def loopMem (M : Mem) (L : Loop) (st : LoopState) (pd : Option Code) (cells : List PV) (xb : List (Option (List PV))) (xf : List Nat) (xa : List (Option Arr)) : Mem :=
 ⟨M.boxes ++ some (.loopc { L with state := st, pending := pd } :: cells) :: xb, xf ++ M.fz, M.arrs ++ xa⟩
def afterLoop (Q : Ex → St → Prop) (env : List (Nat × PV)) (b : Nat) (L : Loop) (M : Mem) : Prop :=
 ∃ st pd cells, M.boxes[b]? = some (some (.loopc { L with state := st, pending := pd } :: cells)) ∧ st ≠ .busy ∧ b ∉ M.fz ∧
  match pd with
  | none => Q .normal ⟨env, { M with boxes := M.boxes.set b (some (.loopc { L with state := .exhausted, pending := pd } :: cells)) }⟩
  | some .ret => Q .ret ⟨env, { M with boxes := M.boxes.set b (some (.loopc { L with state := .exhausted, pending := pd } :: cells)) }⟩
  | some (.exit id) => Q (.exit id) ⟨env, { M with boxes := M.boxes.set b (some (.loopc { L with state := .exhausted, pending := pd } :: cells)) }⟩
  | _ => False
def roundQ (b : Nat) (L : Loop) (K : PV → Mem → Prop) (e : Ex) (s : St) : Prop :=
 ∃ cells, s.mem.boxes[b]? = some (some (.loopc { L with state := .busy, pending := none } :: cells)) ∧ b ∉ s.mem.fz ∧
  match e with
  | .normal => K (.d (.bool true)) { s.mem with boxes := s.mem.boxes.set b (some (.loopc { L with state := .ready, pending := none } :: cells)) }
  | .ret => K (.d (.bool false)) { s.mem with boxes := s.mem.boxes.set b (some (.loopc { L with state := .done, pending := some .ret } :: cells)) }
  | .exit id => K (.d (.bool false)) { s.mem with boxes := s.mem.boxes.set b (some (.loopc { L with state := .done, pending := some (.exit id) } :: cells)) }
  | .panic _ => False
def pwp (C : Ctx) (nb na : Nat) : PCode → (Ex → St → Prop) → St → Prop
 | .skip, Q, s => Q .normal s
 | .region _ ops nres keep fz, Q, s =>
  runPOs C s.mem.boxes.length ops (fun s' => frzSt fz (Q .normal) ⟨keepEnv s'.env keep, s'.mem⟩) (fun d M => Q (.panic d) ⟨[], M⟩)
   ⟨s.env, { s.mem with boxes := s.mem.boxes ++ List.replicate nres none }⟩
 | .seq a b, Q, s => pwp C nb na a (fun e s' => match e with | .normal => pwp C nb na b Q s' | e => Q e s') s
 | .cond c a b, Q, s => match s.val c with
  | .d (.bool x) => (x = true → pwp C nb na a Q s) ∧ (x = false → pwp C nb na b Q s)
  | _ => False
 | .block id b, Q, s => pwp C nb na b (fun e s' => match e with | .exit id' => if id' = id then Q .normal s' else Q (.exit id') s' | e => Q e s') s
 | .loop b, Q, s => ∃ (I : Nat → St → Prop) (n : Nat), I n s ∧
   ∀ n s, I n s → pwp C nb na b (fun e s' => match e with | .normal => ∃ n' s'', n' < n ∧ Weak nb na s' s'' ∧ I n' s'' | e => Q e s') s
 | .exit id, Q, s => Q (.exit id) s
 | .scope b, Q, s => pwp C nb na b Q s
 | .label _, Q, s => Q .normal s
 | .ret, Q, s => Q .ret s
 | .rangeF f ps keys asg body, Q, s => ∃ g fs cs, s.val f = .d (.func (.func g) fs cs) ∧ callable C.P g = true ∧ s.mem.boxes.length ∉ s.mem.fz ∧
  ∀ L : Loop, L.pending = none →
   (∀ (args : List DV) (K : PV → Mem → Prop) (xb : List (Option (List PV))) (xf : List Nat) (xa : List (Option Arr)), args.length = ps.length → (∀ i ∈ xf, s.mem.boxes.length < i) →
    pwp C nb na asg (fun e s1 => e = .normal ∧ s1.mem = loopMem s.mem L .ready none ((List.range L.tmps.size).map (look s.env)) xb xf xa ∧
     pwp C nb na body (roundQ s.mem.boxes.length L K) ⟨s1.env, loopMem s.mem L .busy none ((List.range L.tmps.size).map (look s.env)) xb xf xa⟩)
     ⟨ps.zip (args.map .d) ++ keepEnv s.env keys, loopMem s.mem L .ready none ((List.range L.tmps.size).map (look s.env)) xb xf xa⟩ →
    SY C s.mem.boxes.length (args.map .d) (loopMem s.mem L .ready none ((List.range L.tmps.size).map (look s.env)) xb xf xa) K (fun _ _ => False)) →
   SC C g (fs.map .d ++ [.yref s.mem.boxes.length] ++ cs.map .d) (loopMem s.mem L .ready none ((List.range L.tmps.size).map (look s.env)) [] [] [])
    (fun _ M => afterLoop Q s.env s.mem.boxes.length L M) (fun _ _ => False)
end Go.Am
