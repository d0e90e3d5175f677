/-
  Part 3 of the proof of a law of plates: an abstract machine over the model, contracts of functions, plain laws.
  Conditions: none.
-/
import Derived.Test.YticjmjdcggomgaaGreatDoorM02
set_option linter.all false
namespace Go.Am
section
variable {C : Ctx} {X : Nat → Prop} {w w' : World} {M M' : Mem} {E E' : Emb}
theorem sim_rowset {k : Nat} {A A' : Arr} {loc : Option (Nat × Nat × Nat)} (h : Sim C X w M E) (hk : M.arrs[k]? = some (some A)) (hst : A.st ≠ 2)
  (hos : w'.os = w.os) (htape : w'.tape = w.tape) (hout : w'.output = w.output) (hsize : w.heap.size ≤ w'.heap.size)
  (hkeep : ∀ b o, (∀ o' e', E.ar[k]? ≠ some (some (b, o', e'))) → w.heap[b]? = some o → w'.heap[b]? = some o)
  (hver : A.ver < A'.ver) (hsz : 0 < A'.sz) (hfit : ∀ x ∈ A'.elems, x.fits A'.sz = true) (hst' : A'.st = 1 → loc ≠ none)
  (hloc : ∀ blk o e, loc = some (blk, o, e) → (w.heap.size ≤ blk ∨ ∃ o' e', E.ar[k]? = some (some (blk, o', e'))) ∧ ∃ (vs : Array Value) (T : TM vs.size), w'.heap[blk]? = some (.cells vs T.ty T.fr) ∧
   o + A'.elems.length * A'.sz ≤ e ∧ e ≤ vs.size ∧ RepL w (away X M E) ((vs.toList.drop o).take (A'.elems.length * A'.sz)) (flat A'.elems)) :
  Sim C X w' { M with arrs := M.arrs.set k (some A') } { E with ar := E.ar.set k loc } ∧ From w M E w' { M with arrs := M.arrs.set k (some A') } { E with ar := E.ar.set k loc } := by
 have hlt : k < M.arrs.length := (List.getElem?_eq_some_iff.1 hk).1
 have hltE : k < E.ar.length := h.lenA ▸ hlt
 have har : ∀ j, j ≠ k → (E.ar.set k loc)[j]? = E.ar[j]? := fun j hj => by rw [List.getElem?_set]; simp [Ne.symm hj]
 have hark : (E.ar.set k loc)[k]? = some loc := by simp [hltE]
 have hown : ∀ b o' e', E.ar[k]? = some (some (b, o', e')) → owned M E b := fun b o' e' he => .inr ⟨k, A, o', e', hk, hst, he⟩
 have hXk : ∀ b o' e', E.ar[k]? = some (some (b, o', e')) → ¬ X b := fun b o' e' he => ((h.arr k A hk).2.2.2 b o' e' he).1
 have hf : From w M E w' { M with arrs := M.arrs.set k (some A') } { E with ar := E.ar.set k loc } :=
  {os := hos, tape := htape, output := hout, size := hsize
   keep := fun b o hb ho => hkeep b o (fun o' e' he => hb (hown b o' e' he)) ho
   own := by
    rintro b (⟨i, cs, h1, h2, h3⟩ | ⟨j, B, o, e, h1, h2, h3⟩)
    ·exact .inl (.inl ⟨i, cs, h1, h2, h3⟩)
    ·rcases getElem?_set_some h1 with ⟨rfl, hB⟩ | ⟨hne, h1'⟩
     ·simp only [hark, Option.some.injEq] at h3
      rcases (hloc b o e h3).1 with hh | ⟨o', e', he⟩
      ·exact .inr hh
      ·exact .inl (hown b o' e' he)
     ·simp only [har j hne] at h3
      exact .inl (.inr ⟨j, B, o, e, h1', h2, h3⟩)
   lenB := Nat.le_refl _
   bx := fun b cs hb => ⟨rfl, cs, hb, rfl⟩
   lenA := by simp
   ar := fun j B hj hB => by
    rcases getElem?_set_some hB with ⟨rfl, hBe⟩ | ⟨hne, hB'⟩
    ·cases hBe
     exact ⟨A, hk, by omega, fun he => by omega⟩
    ·exact ⟨B, hB', Nat.le_refl _, fun _ => ⟨har j hne, rfl, rfl, fun _ => rfl⟩⟩ }
 have hkeepX : ∀ b o, X b → w.heap[b]? = some o → w'.heap[b]? = some o := fun b o hb ho => hkeep b o (fun o' e' he => hXk b o' e' he hb) ho
 refine ⟨?_, hf⟩
 exact
  {glob := C.keeps w w' h.glob fun b hb => by
    have hlt := h.xlt b (h.lowX b hb)
    obtain ⟨o, ho⟩ : ∃ o, w.heap[b]? = some o := ⟨_, Array.getElem?_eq_getElem hlt⟩
    rw [ho, hkeepX b o (h.lowX b hb) ho]
   lowX := h.lowX
   xlt := fun b hb => Nat.lt_of_lt_of_le (h.xlt b hb) hsize
   lenB := h.lenB
   lenA := by simp [h.lenA]
   box := fun b cs hb => by
    obtain ⟨blk, h1, h2, h3⟩ := h.box b cs hb
    exact ⟨blk, h1, h2, h3.from hf fun _ ho => hkeep blk _ (fun o' e' he => h.ba b k cs A blk o' e' hb hk h1 he) ho⟩
   arr := fun j B hB => by
    rcases getElem?_set_some hB with ⟨rfl, hBe⟩ | ⟨hne, hB'⟩
    ·cases hBe
     refine ⟨hsz, hfit, fun hs => ?_, fun blk o e he => ?_⟩
     ·cases hl : loc with
      | none => exact absurd hl (hst' hs)
      | some q => exact ⟨q, hl ▸ hark⟩
     ·simp only [hark, Option.some.injEq] at he
      obtain ⟨g0, vs, T, g2, g3, g4, g5⟩ := hloc blk o e he
      refine ⟨?_, vs, T, g2, g3, g4, g5.from hf⟩
      rcases g0 with hh | ⟨o', e', he'⟩
      ·exact fun hx => absurd (h.xlt _ hx) (by omega)
      ·exact hXk blk o' e' he'
    ·obtain ⟨h1, h2, h3, h4⟩ := h.arr j B hB'
     refine ⟨h1, h2, fun hs => by rw [har j hne]; exact h3 hs, fun blk o e he => ?_⟩
     simp only [har j hne] at he
     obtain ⟨q1, vs, T, q2, q3, q4, q5⟩ := h4 blk o e he
     exact ⟨q1, vs, T, hkeep blk _ (fun o' e' he' => hne (h.aa j k B A blk o e o' e' hB' hk he he')) q2, q3, q4, q5.from hf⟩
   bb := h.bb
   aa := fun j j' B B' blk o e o' e' h1 h2 h3 h4 => by
    have key : ∀ j' B' o' e', j' ≠ k → M.arrs[j']? = some (some B') → E.ar[j']? = some (some (blk, o', e')) → loc = some (blk, o, e) → False := by
     intro j' B' o' e' hj h5 h6 h7
     rcases (hloc blk o e h7).1 with hh | ⟨o2, e2, he2⟩
     ·exact absurd (h.arr_lt h5 h6) (by omega)
     ·exact hj (h.aa j' k B' A blk o' e' o2 e2 h5 hk h6 he2)
    have key' : ∀ j' B' o e, j' ≠ k → M.arrs[j']? = some (some B') → E.ar[j']? = some (some (blk, o, e)) → loc = some (blk, o', e') → False := by
     intro j' B' o e hj h5 h6 h7
     rcases (hloc blk o' e' h7).1 with hh | ⟨o2, e2, he2⟩
     ·exact absurd (h.arr_lt h5 h6) (by omega)
     ·exact hj (h.aa j' k B' A blk o e o2 e2 h5 hk h6 he2)
    rcases getElem?_set_some h1 with ⟨rfl, _⟩ | ⟨hne, h1'⟩ <;> rcases getElem?_set_some h2 with ⟨rfl, _⟩ | ⟨hne', h2'⟩
    ·rfl
    ·simp only [hark, Option.some.injEq] at h3; simp only [har j' hne'] at h4
     exact (key j' B' o' e' hne' h2' h4 h3).elim
    ·simp only [hark, Option.some.injEq] at h4; simp only [har j hne] at h3
     exact (key' j B o e hne h1' h3 h4).elim
    ·simp only [har j hne] at h3; simp only [har j' hne'] at h4
     exact h.aa j j' B B' blk o e o' e' h1' h2' h3 h4
   ba := fun b j cs B blk o e h1 h2 h3 h4 => by
    rcases getElem?_set_some h2 with ⟨rfl, _⟩ | ⟨hne, h2'⟩
    ·simp only [hark, Option.some.injEq] at h4
     rcases (hloc blk o e h4).1 with hh | ⟨o', e', he'⟩
     ·exact absurd (h.box_lt h1 h3) (by omega)
     ·exact h.ba b j cs A blk o' e' h1 hk h3 he'
    ·simp only [har j hne] at h4
     exact h.ba b j cs B blk o e h1 h2' h3 h4 }
theorem growBy_le (n : Nat) : ∀ (r c : Nat), Builtin.growBy n r c ≤ max c (n + (n + 768) / 4) := by
 intro r
 induction r with
 | zero => intro c; simp [Builtin.growBy]; omega
 | succ r ih =>
  intro c
  simp only [Builtin.growBy]
  split
  ·omega
  ·refine Nat.le_trans (ih _) ?_
   omega
theorem nextslicecap_le (n c : Nat) (h : c < n) : Builtin.nextslicecap n c ≤ 2 * n + 768 := by
 unfold Builtin.nextslicecap
 split
 ·omega
 ·split
  ·omega
  ·have := growBy_le n 4 c; omega
theorem run_append {P : Program} {sT xT ty e : TypeId} {i : TypeInfo} {z : Value} {sz n sLen sCap : Nat} {base : Option Addr} {x : Value} {news olds : List Value} {w : World}
  (hs : P.underlying sT = some (.slice e)) (hx : ∃ d, P.underlying xT = some d ∧ ∀ k, d ≠ .int k) (hi : P.info? e = some i) (hz : i.zero = some z) (hsz : i.size = sz) (hb : i.bytes ≤ 1024) (hzs : z.cells.size = sz)
  (hl : (Builtin.lenOf x).run P w = .ok n w) (hn : ∀ w', Later w w' → (Builtin.firstCells sz n x).run P w' = .ok news.toArray w') (hnl : news.length = n * sz)
  (ho : ∀ w', Later w w' → (Builtin.firstCells sz sLen (.slice base sLen sCap)).run P w' = .ok olds.toArray w') (hol : olds.length = sLen * sz)
  (hlim : sLen + n ≤ 1073741824) (h1 : ∀ v ∈ news, v.oneCell' = true)
  (hroom : sLen + n ≤ sCap → n ≠ 0 → ∃ (g o : Nat) (cur : Array Value) (T : TM cur.size), base = some ⟨g, o, none⟩ ∧ w.heap[g]? = some (.cells cur T.ty T.fr) ∧ o + sLen * sz + news.length ≤ cur.size) :
  (sLen + n ≤ sCap ∧ n = 0 ∧ (Builtin.append_ #[sT, xT] ty #[.slice base sLen sCap, x]).run P w = .ok (.slice base (sLen + n) sCap) w) ∨
  (sLen + n ≤ sCap ∧ n ≠ 0 ∧ ∃ (w' : World) (g o : Nat) (cur : Array Value) (T : TM cur.size), (Builtin.append_ #[sT, xT] ty #[.slice base sLen sCap, x]).run P w = .ok (.slice base (sLen + n) sCap) w' ∧
   base = some ⟨g, o, none⟩ ∧ w.heap[g]? = some (.cells cur T.ty T.fr) ∧ Wrote g w w' (splice cur.toList (o + sLen * sz) news) T.ty T.fr) ∨
  (sCap < sLen + n ∧ ∃ w' cap rest, (Builtin.append_ #[sT, xT] ty #[.slice base sLen sCap, x]).run P w = .ok (.slice (some ⟨w.heap.size, 0, none⟩) (sLen + n) cap) w' ∧ sLen + n ≤ cap ∧
   Later w w' ∧ w'.heap[w.heap.size]? = some (.cells (olds ++ news ++ rest).toArray e (0, 0)) ∧ (olds ++ news ++ rest).length = cap * sz) := by
 obtain ⟨d, hd, hdk⟩ := hx
 have hsT := run_underlying (w := w) hs
 have hxT := run_underlying (w := w) hd
 by_cases hroom' : sLen + n ≤ sCap
 ·by_cases hn0 : n = 0
  ·refine .inl ⟨hroom', hn0, ?_⟩
   subst hn0
   have hn' := hn w (Later.refl w)
   have hnil : news = [] := List.length_eq_zero_iff.1 (by omega)
   subst hnil
   have h0 : ¬ sCap < sLen := by omega
   cases base <;> simp [Builtin.append_, hsT, hxT, sizeOf, typeInfo, hi, hsz, hl, hn', h0, storeCells]
  ·obtain ⟨g, o, cur, T, hbs, hg, hfit⟩ := hroom hroom' hn0
   refine .inr (.inl ⟨hroom', hn0, ?_⟩)
   subst hbs
   refine ⟨w.setRow g (splice cur.toList (o + sLen * sz) news).toArray, g, o, cur, T, ?_, rfl, hg, wrote_setRow w g cur T.ty _ hg⟩
   have hn' := hn w (Later.refl w)
   have hst := run_storeCells_atM P g (o + sLen * sz) T.ty T.fr news 0 cur w hg T.ok (by simpa using hfit) h1
   simp only [Nat.add_zero] at hst
   simp [Builtin.append_, hsT, hxT, sizeOf, typeInfo, hi, hsz, hl, hn', hroom', Addr.add_lit, hst, splice]
 ·refine .inr (.inr ⟨by omega, ?_⟩)
  have hcap := nextslicecap_le (sLen + n) sCap (by omega)
  have hbig : ¬ (Builtin.nextslicecap (sLen + n) sCap * i.bytes > 2 ^ 48) := by
   have : Builtin.nextslicecap (sLen + n) sCap * i.bytes ≤ (2 * (sLen + n) + 768) * 1024 := Nat.mul_le_mul hcap hb
   omega
  have hn' := hn w.drew (Later.drew w)
  have ho' := ho w.drew (Later.drew w)
  refine ⟨(w.drew).alloc (.cells (olds ++ news ++ (Builtin.zeroCells z.cells ((grownCap w (sLen + n) sCap e) - (sLen + n))).toList).toArray e), grownCap w (sLen + n) sCap e,
   (Builtin.zeroCells z.cells ((grownCap w (sLen + n) sCap e) - (sLen + n))).toList, ?_, grownCap_ge w _ _ _, (Later.drew w).trans (Later.alloc _ _), heap_alloc_new w.drew _, ?_⟩
  ·have hbig' : ¬ (281474976710656 < Builtin.nextslicecap (sLen + n) sCap * i.bytes) := by omega
   have h63 : ¬ ((9223372036854775807 : Int) < (sLen : Int) + (n : Int)) := by omega
   simp [Builtin.append_, hsT, hxT, sizeOf, typeInfo, hi, hsz, hl, hn', ho', hroom', hbig', h63, zeroValue, hz, newRow, grownCap, Question.forced]
   congr 2
   apply Array.ext'
   simp
  ·have := grownCap_ge w (sLen + n) sCap e
   simp only [List.length_append, Array.length_toList, size_zeroCells, hol, hnl, hzs]
   rw [← Nat.add_mul, ← Nat.add_mul]
   congr 1; omega
end
end Go.Am
namespace Go.Am
mutual
def constRep : DV → Value → Bool
 | .int k n, .int k' n' => decide (k = k') && decide (n = n')
 | .bool a, .bool b => a == b
 | .str a, .string b => decide (a.data.toList = b.data.toList)
 | .nilPtr, .pointer none => true
 | .slice ex xs, .slice none 0 0 => ex && xs.isEmpty
 | .agg ds, .agg vs => constRepL ds vs.toList
 | .tup ds, .tuple vs => constRepL ds vs.toList
 | .nilFunc, .nilFunc => true
 | .nilIface, .nilIface => true
 | .iface t d, .iface t' v => decide (t = t') && constRep d v
 | .map none, .map none => true
 | _, _ => false
def constRepL : List DV → List Value → Bool
 | [], [] => true
 | d :: ds, v :: vs => constRep d v && constRepL ds vs
 | _, _ => false
end
mutual
theorem constRep_rep {w : World} {O : Nat → Prop} : ∀ {d : DV} {v : Value}, constRep d v = true → RepD w O v d
 | .int k n, .int k' n', h => by simp [constRep] at h; obtain ⟨rfl, rfl⟩ := h; exact .int _ _
 | .bool a, .bool b, h => by simp [constRep] at h; subst h; exact .bool _
 | .str a, .string b, h => by
  simp [constRep] at h
  have : a = b := ByteArray.ext h
  subst this; exact .str _
 | .nilPtr, .pointer none, _ => .nilPtr
 | .slice ex xs, .slice none 0 0, h => by
  simp [constRep] at h
  obtain ⟨h1, rfl⟩ := h
  exact .empty (fun _ => rfl)
 | .agg ds, .agg vs, h => .agg (constRepL_rep h)
 | .tup ds, .tuple vs, h => .tup (constRepL_rep h)
 | .nilFunc, .nilFunc, _ => .nilFunc
 | .nilIface, .nilIface, _ => .nilIface
 | .iface t d, .iface t' v, h => by
  simp [constRep] at h
  obtain ⟨rfl, h2⟩ := h
  exact .iface (constRep_rep h2)
 | .map none, .map none, _ => .nilMap
theorem constRepL_rep {w : World} {O : Nat → Prop} : ∀ {ds : List DV} {vs : List Value}, constRepL ds vs = true → RepL w O vs ds
 | [], [], _ => .nil
 | d :: ds, v :: vs, h => by
  simp only [constRepL, Bool.and_eq_true] at h
  exact .cons (constRep_rep h.1) (constRepL_rep h.2)
end
def isScalar : Option TypeDesc → Bool
 | some .bool => true
 | some (.int _) => true
 | some .string => true
 | _ => false
def scalarKind (d : Option TypeDesc) (k : Nat) : Bool :=
 match d with
 | some .bool => k == 0
 | some (.int _) => k == 1
 | some .string => k == 2
 | _ => false
def scalarFields (P : Program) : List Field → List Nat → Nat → Bool
 | [], [], _ => true
 | f :: fs, k :: ks, off => decide (f.offset = off) && scalarKind (P.underlying f.type) k && decide (f.name ≠ "_") && scalarFields P fs ks (off + 1)
 | _, _, _ => false
def okAgg (P : Program) (t : TypeId) (agg : Bool) (n : Nat) : Bool :=
 match P.underlying t, P.info? t with
 | some (.struct _), some i => agg && i.size == n && decide (0 < n)
 | some (.array _ _), some i => agg && i.size == n && decide (0 < n)
 | some _, _ => !agg && n == 1
 | _, _ => false
def placesOf (P : Program) (fs : Array Field) (ps : List (Nat × Operand)) : Option (List (Nat × Nat)) :=
 ps.mapM fun (i, _) => (fs[i]?).bind fun f => (P.info? f.type).map fun j => (f.offset, j.size)
def okKind (P : Program) : Op → POp → Bool
 | .move _, .mov => true
 | .assign _, .mov => true
 | .move _, .asgG _ => true
 | .assign _, .asgG _ => true
 | .pick _ _ _, .pick => true
 | .alloc t, .alloc _ zs => match P.info? t with
  | some i => match i.zero with | some z => constRepL zs z.cells.toList | none => false
  | none => false
 | .box _ _, .box _ => true
 | .build t parts, .build zs ps => match P.info? t with
  | some i => match i.zero with
   | some z => constRepL zs z.cells.toList && match P.underlying t with
    | some (.struct fs) => (fs.all fun f => (P.info? f.type).isSome) && decide (placesOf P fs parts.toList = some ps)
    | some (.array _ e) => match P.info? e with | some j => decide (ps = parts.toList.map fun (i, _) => (i * j.size, j.size)) | none => false
    | _ => false
   | none => false
  | none => false
 | .buildSlice t len parts, .mkSl sz zs is => match P.underlying t with
  | some (.slice e) => match P.info? e with
   | some i => match i.zero with
    | some z => decide (0 < sz) && i.size == sz && z.cells.size == sz && decide (len * sz ≤ 2 ^ 24) && zs.length == len && (zs.all fun d => constRepL d.cells z.cells.toList) && decide (is = parts.toList.map (·.1))
    | none => false
   | none => false
  | _ => false
 | .load t _, .load agg n => okAgg P t agg n
 | .load t _, .loadP agg n => okAgg P t agg n
 | .store t _ _, .store n => match P.info? t with | some i => i.size == n | none => false
 | .nilCheck _, .nilck => true
 | .binOp op t _ _ _, .bin op' => decide (op = op') && isScalar (P.underlying t)
 | .binOp op t _ _ _, .binA neq ks => (match op with | .eql => !neq | .neq => neq | _ => false) && match P.underlying t with
  | some (.struct fs) => scalarFields P fs.toList ks 0 && !P.stoodInHeld t && !P.eqGuardType P.depth t
  | _ => false
 | .binOp op t _ _ _, .binB neq => (match op with | .eql => !neq | .neq => neq | _ => false) && match P.underlying t with | some .bool => true | _ => false
 | .binOp op t _ y _, .isNil neq => (match op with | .eql => !neq | .neq => neq | _ => false) && (match P.underlying t with | some (.slice _) => true | _ => false) && (match y with | .const (.slice none 0 0) => true | _ => false)
 | .unOp op _ _, .un op' => decide (op = op')
 | .convert s d _, .conv k => (match P.underlying s with | some (.int _) => true | _ => false) && (match P.underlying d with | some (.int k') => decide (k' = k) | _ => false)
 | .makeInterface t _, .mkI t' => decide (t = t') && match P.underlying t with | some (.interface _) => false | some _ => true | none => false
 | .makeFunc fn first _, .mkF fn' nf => decide (fn = fn') && first.size == nf
 | .slice t _ lo hi mx, .slcS a b => (match P.underlying t with | some .string => true | _ => false) && (lo.isSome == a) && (hi.isSome == b) && mx.isNone
 | .slice t _ lo hi mx, .slcD sz a b c => (match P.underlying t with | some (.slice e) => (match P.info? e with | some i => i.size == sz && decide (0 < sz) | none => false) | _ => false) && (lo.isSome == a) && (hi.isSome == b) && (mx.isSome == c)
 | .fieldAddr t _ f, .fld off => match P.underlying t with
  | some (.struct fs) => match fs[f]? with | some fd => fd.offset == off && (match P.info? fd.type with | some i => decide (i.size ≠ 0) | none => false) | none => false
  | _ => false
 | .field t _ f, .fldv agg off n => match P.underlying t with
  | some (.struct fs) => match fs[f]? with | some fd => fd.offset == off && okAgg P fd.type agg n | none => false
  | _ => false
 | .indexAddr t _ _, .idxA sz => match P.underlying t with
  | some (.slice e) => (match P.info? e with | some i => i.size == sz && decide (0 < sz) | none => false)
  | _ => false
 | .index t _ _, .idxS => match P.underlying t with | some .string => true | _ => false
 | .index t _ _, .idxV agg sz len => match P.underlying t with
  | some (.array n e) => n == len && (match P.info? e with | some i => i.size == sz | none => false) && okAgg P e agg sz
  | _ => false
 | .extract _ i, .ext j => i == j
 | .call { callee := .value (.func f), .. }, .call f' => f == f' && callable P f
 | .call { callee := .value (.func f), .. }, .pcall f' => f == f' && callable P f
 | .call { callee := .value (.func f), .. }, .pcallF f' => f == f' && callable P f
 | .call { callee := .value (.func f), .. }, .pcallD f' => f == f' && callable P f
 | .call { callee := .value (.tmp _), .. }, .callV => true
 | .call { callee := .builtin .append, argTypes, .. }, .app sz _ => argTypes.size == 2 && match P.underlying (argTypes.getD 0 0), P.underlying (argTypes.getD 1 0) with
  | some (.slice e), some d => (match d with | .int _ => false | _ => true) && (match P.info? e with
   | some i => match i.zero with | some z => i.size == sz && decide (0 < sz) && decide (i.bytes ≤ 1024) && z.cells.size == sz | none => false
   | none => false)
  | _, _ => false
 | .call { callee := .builtin .append, argTypes, .. }, .appF sz => argTypes.size == 2 && match P.underlying (argTypes.getD 0 0), P.underlying (argTypes.getD 1 0) with
  | some (.slice e), some d => (match d with | .int _ => false | _ => true) && (match P.info? e with
   | some i => match i.zero with | some z => i.size == sz && decide (0 < sz) && decide (i.bytes ≤ 1024) && z.cells.size == sz | none => false
   | none => false)
  | _, _ => false
 | .call { callee := .builtin .len, argTypes, .. }, .len => argTypes.size == 1 && match P.underlying (argTypes.getD 0 0) with | some (.slice _) => true | _ => false
 | .call { callee := .builtin .len, argTypes, .. }, .lenS => argTypes.size == 1 && match P.underlying (argTypes.getD 0 0) with | some .string => true | _ => false
 | .call { callee := .builtin .len, argTypes, args }, .lenC n => argTypes.size == 1 && args.size == 1 && match P.underlying (argTypes.getD 0 0) with | some (.array m _) => m == n | _ => false
 | .call { callee := .builtin .max, .. }, .minmax mx => mx
 | .call { callee := .builtin .min, .. }, .minmax mx => !mx
 | .panic _, .panic => true
 | .lookup t _ _ c, .mlook ks z => !c && match P.underlying t with
  | some (.map key e) => (match P.underlying key with | some (.struct fs) => scalarFields P fs.toList ks 0 && !P.stoodInHeld key | _ => false) && (match P.info? e with | some i => (match i.zero with | some z' => constRep z z' | none => false) | none => false)
  | _ => false
 | .makeSlice t _ _, .mkRow sz z => match P.underlying t with
  | some (.slice e) => (match P.info? e with
   | some i => (match i.zero with | some z' => i.size == sz && decide (0 < sz) && decide (i.bytes ≤ 1024) && decide (sz ≤ 16) && z'.cells.size == sz && constRepL z.cells z'.cells.toList | none => false)
   | none => false)
  | _ => false
 | .convert s d _, .s2b => (match P.underlying d with | some (.slice e) => (match P.underlying e with | some (.int k) => decide (k = .u8) | _ => false) | _ => false) && (match P.underlying s with | some .string => true | _ => false)
 | .convert s d _, .b2s => (match P.underlying s with | some (.slice e) => (match P.underlying e with | some (.int k) => decide (k = .u8) | _ => false) | _ => false) && (match P.underlying d with | some .string => true | _ => false)
 | .typeAssert _ _ t c, .tas t' z => decide (t = t') && c && (match P.underlying t with | some (.interface _) => false | some _ => true | none => false) && (match P.info? t with | some i => (match i.zero with | some z' => constRep z z' | none => false) | none => false)
 | .slice t _ lo hi mx, .slcL sz => (match P.underlying t with | some (.slice e) => (match P.info? e with | some i => i.size == sz && decide (0 < sz) | none => false) | _ => false) && (lo.isSome == true) && (hi.isSome == false) && (mx.isSome == false)
 | .slice t _ lo hi mx, .slcP sz => (match P.underlying t with | some (.slice e) => (match P.info? e with | some i => i.size == sz && decide (0 < sz) | none => false) | _ => false) && (lo.isSome == false) && (hi.isSome == true) && (mx.isSome == false)
 | .call { callee := .builtin .copy, argTypes, .. }, .copy sz => argTypes.size == 2 && match P.underlying (argTypes.getD 0 0), P.underlying (argTypes.getD 1 0) with
  | some (.slice e), some (.slice _) => (match P.info? e with | some i => i.size == sz && decide (0 < sz) | none => false)
  | _, _ => false
 | .call { callee := .builtin .clear, argTypes, .. }, .clr sz z => argTypes.size == 1 && match P.underlying (argTypes.getD 0 0) with
  | some (.slice e) => (match P.info? e with | some i => (match i.zero with | some z' => i.size == sz && decide (0 < sz) && z'.cells.size == sz && constRepL z.cells z'.cells.toList | none => false) | none => false)
  | _ => false
 | .binOp op t _ y _, .isNilI neq => (match op with | .eql => !neq | .neq => neq | _ => false) && (match P.underlying t with | some (.interface _) => true | _ => false) && (match y with | .const .nilIface => true | _ => false)
 | .range t _, .rngS _ => match P.underlying t with | some .string => true | _ => false
 | .next _ c, .nxtS => c
 | .call { callee := .invoke _ name, .. }, .inv name' => decide (name = name')
 | .binOp op t _ _ _, .shf op' => decide (op = op') && (match op with | .shl => true | .shr => true | _ => false) && match P.underlying t with | some (.int _) => true | _ => false
 | .makeMap _ none, .mkMap _ => true
 | .mapUpdate t _ _ _, .mset ks => match P.underlying t with
  | some (.map key _) => (match P.underlying key with | some (.struct fs) => scalarFields P fs.toList ks 0 && !P.stoodInHeld key | _ => false)
  | _ => false
 | .buildSlice t len parts, .mkSlR sz zs is => match P.underlying t with
  | some (.slice e) => match P.info? e with
   | some i => match i.zero with
    | some z => decide (0 < sz) && i.size == sz && z.cells.size == sz && decide (len * sz ≤ 2 ^ 24) && zs.length == len && (zs.all fun d => constRepL d.cells z.cells.toList) && decide (is = parts.toList.map (·.1))
    | none => false
   | none => false
  | _ => false
 | _, _ => false
def opsOf : Op → List Operand
 | .move x | .assign x | .box _ x | .load _ x | .nilCheck x | .unOp _ _ x | .convert _ _ x | .makeInterface _ x | .fieldAddr _ x _ | .field _ x _ | .extract x _ | .panic x => [x]
 | .pick c a b => [c, a, b]
 | .build _ ps | .buildSlice _ _ ps => ps.toList.map (·.2)
 | .store _ a v | .binOp _ _ a v _ | .indexAddr _ a v | .index _ a v | .lookup _ a v _ => [a, v]
 | .typeAssert x _ _ _ => [x]
 | .makeSlice _ l c => [l, c]
 | .mapUpdate _ m k v => [m, k, v]
 | .range _ x => [x]
 | .next it _ => [it]
 | .call { callee := .invoke r _, args, .. } => r :: args.toList
 | .makeFunc _ first captured => first.toList ++ captured.toList
 | .slice _ x lo hi mx => x :: lo.toList ++ hi.toList ++ mx.toList
 | .call { callee := .value (.func _), args, .. } => args.toList
 | .call { callee := .value f, args, .. } => f :: args.toList
 | .call { args, .. } => args.toList
 | _ => []
def Outc (C : Ctx) (X : Nat → Prop) (w : World) (M : Mem) (E : Emb) (K : PV → Mem → Prop) (KP : DV → Mem → Prop) : Result Next → Prop
 | .ok (.value v) w' => ∃ pv M' E', K pv M' ∧ Sim C X w' M' E' ∧ From w M E w' M' E' ∧ Rep w' (away X M' E') M' E' v pv
 | .ok .skip w' => ∃ M' E', K .dead M' ∧ Sim C X w' M' E' ∧ From w M E w' M' E'
 | .ok (.enter f args) w' => w' = w ∧ ∃ ps, SC C f ps M K KP ∧ RepP w (away X M E) M E args.toList ps
 | .ok (.round l f tmps as body) w' => w' = w ∧ RoundIn Fence.wide 0 C.P l f tmps as body w fun e w' => Fin C X w M E K KP w' e
 | .halt (.panic v) w' => ∃ d M' E', KP d M' ∧ Sim C X w' M' E' ∧ From w M E w' M' E' ∧ RepD w' (away X M' E') v d
 | _ => False
section
variable {C : Ctx} {X : Nat → Prop} {w : World} {M : Mem} {E : Emb} {K : PV → Mem → Prop} {KP : DV → Mem → Prop}
theorem Outc.same {v : Value} {pv : PV} (hS : Sim C X w M E) (hK : K pv M) (hr : Rep w (away X M E) M E v pv) : Outc C X w M E K KP (.ok (.value v) w) :=
 ⟨pv, M, E, hK, hS, .refl w M E, hr⟩
theorem RepD.bool_inv {O : Nat → Prop} {v : Value} {b : Bool} (h : RepD w O v (.bool b)) : v = .bool b := by cases h; rfl
theorem RepD.int_inv {O : Nat → Prop} {v : Value} {k : IntKind} {n : Int} (h : RepD w O v (.int k n)) : v = .int k n := by cases h; rfl
theorem RepD.str_inv {O : Nat → Prop} {v : Value} {s : ByteArray} (h : RepD w O v (.str s)) : v = .string s := by cases h; rfl
theorem RepD.slice_inv {O : Nat → Prop} {v : Value} {ex : Bool} {xs : List DV} (h : RepD w O v (.slice ex xs)) : ∃ a cap, v = .slice a xs.length cap := by
 cases h with
 | empty hx => exact ⟨_, _, rfl⟩
 | slice hb ho hl hs hc hx hh => subst hl; exact ⟨_, _, rfl⟩
theorem RepD.agg_inv {O : Nat → Prop} {v : Value} {cs : List DV} (h : RepD w O v (.agg cs)) : ∃ vs, v = .agg vs ∧ RepL w O vs.toList cs := by
 cases h with | agg hh => exact ⟨_, rfl, hh⟩
theorem repP_one {vs : List Value} {p : PV} (h : RepP w (away X M E) M E vs [p]) : ∃ v, vs = [v] ∧ Rep w (away X M E) M E v p := by
 cases h with | cons h t => cases t; exact ⟨_, rfl, h⟩
theorem repP_two {vs : List Value} {p q : PV} (h : RepP w (away X M E) M E vs [p, q]) : ∃ v u, vs = [v, u] ∧ Rep w (away X M E) M E v p ∧ Rep w (away X M E) M E u q := by
 cases h with | cons h t => obtain ⟨u, rfl, h2⟩ := repP_one t; exact ⟨_, _, rfl, h, h2⟩
theorem repP_three {vs : List Value} {p q r : PV} (h : RepP w (away X M E) M E vs [p, q, r]) : ∃ v u t, vs = [v, u, t] ∧ Rep w (away X M E) M E v p ∧ Rep w (away X M E) M E u q ∧ Rep w (away X M E) M E t r := by
 cases h with | cons h t => obtain ⟨u, t, rfl, h2, h3⟩ := repP_two t; exact ⟨_, _, _, rfl, h, h2, h3⟩
theorem case_pick {ρ : Operand → Value} {o : Oper} {c a b : Operand} (ho : o.op = .pick c a b) {args : List PV} (hS : Sim C X w M E) (hA : RepP w (away X M E) M E ((opsOf o.op).map ρ) args) {base : Nat}
  (h : runOp C base .pick args M K KP) : Outc C X w M E K KP ((execOp ρ o).run C.P w) := by
 simp only [ho, opsOf, List.map_cons, List.map_nil] at hA
 simp only [runOp] at h
 split at h
 ·rename_i t p q
  obtain ⟨v, u, x, he, h1, h2, h3⟩ := repP_three hA
  simp only [List.cons.injEq, and_true] at he
  obtain ⟨rfl, rfl, rfl⟩ := he
  have hc := h1.toD.bool_inv
  simp only [execOp, ho, hc, asBool, pure_bind, Sem.run_pure]
  cases t
  ·exact .same hS h h3
  ·exact .same hS h h2
 ·exact h.elim
theorem case_mov {ρ : Operand → Value} {o : Oper} {x : Operand} (ho : o.op = .move x ∨ o.op = .assign x) {args : List PV} (hS : Sim C X w M E) (hA : RepP w (away X M E) M E ((opsOf o.op).map ρ) args) {base : Nat}
  (h : runOp C base .mov args M K KP) : Outc C X w M E K KP ((execOp ρ o).run C.P w) := by
 simp only [runOp] at h
 split at h
 ·rename_i p
  rcases ho with ho | ho <;>
  ·simp only [ho, opsOf, List.map_cons, List.map_nil] at hA
   obtain ⟨v, he, h1⟩ := repP_one hA
   simp only [List.cons.injEq, and_true] at he
   subst he
   simp only [execOp, ho, Sem.run_pure]
   exact .same hS h h1
 ·exact h.elim
theorem case_asgG {ρ : Operand → Value} {o : Oper} {x : Operand} {sz : Nat} (ho : o.op = .move x ∨ o.op = .assign x) {args : List PV} (hS : Sim C X w M E) (hA : RepP w (away X M E) M E ((opsOf o.op).map ρ) args) {base : Nat}
  (h : runOp C base (.asgG sz) args M K KP) : Outc C X w M E K KP ((execOp ρ o).run C.P w) := by
 have key : ∃ p, args = [p] ∧ Rep w (away X M E) M E (ρ x) p ∧ (execOp ρ o).run C.P w = .ok (.value (ρ x)) w := by
  rcases ho with ho | ho <;>
  ·simp only [ho, opsOf, List.map_cons, List.map_nil] at hA
   cases hA with | cons h1 t => cases t; exact ⟨_, rfl, h1, by simp only [execOp, ho, Sem.run_pure]⟩
 obtain ⟨p, rfl, hr, hrun⟩ := key
 rw [hrun]
 simp only [runOp] at h
 split at h
 ·rename_i hp
  simp only [List.cons.injEq, and_true] at hp
  subst hp
  obtain ⟨rfl, hsz, hfit, hK⟩ := h
  rename_i xs
  obtain ⟨s1, s2⟩ := sim_newrow (A := ⟨sz, xs, 0, 0⟩) (loc := none) hS (Later.refl w) hsz hfit (fun hh => by cases hh) (fun _ _ _ hh => by cases hh)
  have hr' := hr.toD.from s2
  refine ⟨_, _, _, hK, s1, s2, ?_⟩
  obtain ⟨a, cap, hv⟩ := hr.toD.slice_inv
  rw [hv] at hr' ⊢
  refine .tsl (by simp) fun A hA' => ?_
  have hAe : A = ⟨sz, xs, 0, 0⟩ := by
   simp at hA'
   exact hA'.symm
  subst hAe
  refine ⟨Nat.le_refl _, fun _ => ⟨none, by simp [← hS.lenA], Nat.zero_le _, by simpa using hr'⟩⟩
 ·rename_i hp
  simp only [List.cons.injEq, and_true] at hp
  subst hp
  exact .same hS h hr
 ·exact h.elim
end
end Go.Am
namespace Go.Am
section
variable {C : Ctx} {X : Nat → Prop} {w : World} {M : Mem} {E : Emb} {K : PV → Mem → Prop} {KP : DV → Mem → Prop} {O : Nat → Prop}
theorem Rep.mkAgg {vs : List Value} {ps : List PV} (h : RepP w O M E vs ps) : Rep w O M E (.agg vs.toArray) (mkAgg ps) := by
 unfold Am.mkAgg
 split
 ·rename_i ds hd; exact .d (.agg (by simpa using h.allD hd))
 ·exact .agg (by simpa using h)
theorem case_alloc {ρ : Operand → Value} {o : Oper} {t : TypeId} {i : Nat} {zs : List DV} (ho : o.op = .alloc t) {args : List PV} (hS : Sim C X w M E) (hok : okKind C.P (.alloc t) (.alloc i zs) = true) {base : Nat}
  (h : runOp C base (.alloc i zs) args M K KP) : Outc C X w M E K KP ((execOp ρ o).run C.P w) := by
 simp only [runOp] at h
 split at h
 ·obtain ⟨h1, hK⟩ := h
  simp only [okKind] at hok
  split at hok
  ·rename_i inf hinf
   split at hok
   ·rename_i z hz
    obtain ⟨a1, a2, a3⟩ := sim_alloc (T := t) (vs := z.cells) hS h1 (RepP.ofD (constRepL_rep hok))
    have hrun : (execOp ρ o).run C.P w = .ok (.value (.pointer (some ⟨w.heap.size, 0, none⟩))) (w.alloc (.cells z.cells t)) := by
     simp [execOp, ho, Instr.alloc, zeroValue, typeInfo, hinf, hz, newVar, newRow]
    rw [hrun]
    exact ⟨_, _, _, hK, a1, a2, a3⟩
   ·cases hok
  ·cases hok
 ·exact h.elim
theorem RepD.cellsL {v : Value} {x : DV} (h : RepD w O v x) : RepL w O v.cells.toList x.cells := by
 have := (Rep.d (M := noMem) (E := ⟨[], []⟩) h).cells (by simp)
 cases x with
 | agg cs => exact this.toL
 | _ => exact RepP.toL (ds := [_]) this
theorem PV.not_dead {p : PV} (h : p.isDead = false) : p ≠ .dead := by rintro rfl; cases h
theorem case_box {ρ : Operand → Value} {o : Oper} {t : TypeId} {x : Operand} {i : Nat} (ho : o.op = .box t x) {args : List PV} (hS : Sim C X w M E) (hA : RepP w (away X M E) M E ((opsOf o.op).map ρ) args) {base : Nat}
  (h : runOp C base (.box i) args M K KP) : Outc C X w M E K KP ((execOp ρ o).run C.P w) := by
 simp only [runOp] at h
 split at h
 ·rename_i p
  obtain ⟨h0, h1, hK⟩ := h
  simp only [ho, opsOf, List.map_cons, List.map_nil] at hA
  obtain ⟨v, he, hr⟩ := repP_one hA
  simp only [List.cons.injEq, and_true] at he
  obtain ⟨a1, a2, a3⟩ := sim_alloc (T := t) hS h1 (hr.cells (PV.not_dead h0))
  have hrun : (execOp ρ o).run C.P w = .ok (.value (.pointer (some ⟨w.heap.size, 0, none⟩))) (w.alloc (.cells v.cells t)) := by
   simp [execOp, ho, Instr.box, newVar, newRow, he]
  rw [hrun]
  exact ⟨_, _, _, hK, a1, a2, a3⟩
 ·exact h.elim
theorem foldl_set (off : Nat) : ∀ (us : List Value) (k : Nat) (cs : Array Value), off + k + us.length ≤ cs.size →
  ((us.zipIdx k).foldl (fun cs (c, j) => cs.setIfInBounds (off + j) c) cs).toList = splice cs.toList (off + k) us
 | [], k, cs, _ => by simp [splice]
 | u :: us, k, cs, h => by
  simp only [List.zipIdx_cons, List.foldl_cons]
  rw [foldl_set off us (k + 1) _ (by simp at h ⊢; omega)]
  simp only [splice, Array.toList_setIfInBounds, List.length_cons]
  have hlt : off + k < cs.toList.length := by simp at h ⊢; omega
  rw [← Nat.add_assoc off k 1, List.take_succ_eq_append_getElem (by simpa using hlt), List.take_set_of_le (Nat.le_refl _), List.drop_set]
  simp only [List.getElem_set_self]
  rw [if_pos (by omega)]
  simp only [List.append_assoc, List.singleton_append]
  congr 3
  omega
theorem fill_step (off n : Nat) (v : Value) (cs : Array Value) (hn : v.cells.size = n) (h : off + n ≤ cs.size) :
  (v.cells.zipIdx.foldl (fun cs (c, j) => cs.setIfInBounds (off + j) c) cs).toList = splice cs.toList off v.cells.toList := by
 have := foldl_set off v.cells.toList 0 cs (by simp; omega)
 rw [← Array.foldl_toList, Array.toList_zipIdx]
 simpa using this
theorem fill_rep {place : Nat → Option (Nat × Nat)} : ∀ {parts : List (Nat × Value)} {ps : List (Nat × Nat)} {args cs cs' : List PV} {vs : Array Value},
  (parts.map fun x => place x.1) = ps.map some → RepP w O M E (parts.map (·.2)) args → RepP w O M E vs.toList cs → fillC cs ps args = some cs' →
  ∃ vs', Instr.fill place vs parts = some vs' ∧ RepP w O M E vs'.toList cs'
 | [], [], [], cs, cs', vs, _, _, hc, hf => by simp only [fillC, Option.some.injEq] at hf; subst hf; exact ⟨vs, rfl, hc⟩
 | (i, v) :: parts, (off, n) :: ps, a :: args, cs, cs', vs, hp, hA, hc, hf => by
  simp only [List.map_cons, List.cons.injEq] at hp
  obtain ⟨hp1, hp2⟩ := hp
  cases hA with
  | cons h1 h2 =>
   simp only [fillC] at hf
   split at hf
   ·rename_i hcond
    obtain ⟨e0, e1, e2⟩ := hcond
    have hcells := h1.cells (PV.not_dead e0)
    have hlen := hcells.length
    have hlenc := hc.length
    have hvn : v.cells.size = n := by simp at hlen; omega
    have hbound : off + n ≤ vs.size := by simp at hlenc; omega
    have hst := fill_step off n v vs hvn hbound
    obtain ⟨vs', g1, g2⟩ := fill_rep (vs := v.cells.zipIdx.foldl (fun cs (c, j) => cs.setIfInBounds (off + j) c) vs) hp2 h2 (by rw [hst]; exact hc.splice hcells off) hf
    refine ⟨vs', ?_, g2⟩
    simp only [Instr.fill, hp1]
    rw [if_neg (by simp [hvn]; omega)]
    exact g1
   ·cases hf
theorem run_sizeOf {P : Program} {t : TypeId} {j : TypeInfo} (h : P.info? t = some j) : (sizeOf t).run P w = .ok j.size w := by simp [sizeOf, typeInfo, h]
theorem mapM_sizes {fs : Array Field} (h : (fs.all fun f => (C.P.info? f.type).isSome) = true) :
  (fs.mapM fun f => Functor.map (Prod.mk f.offset) (sizeOf f.type) : Sem (Array (Nat × Nat))).run C.P w = .ok (fs.map fun f => (f.offset, ((C.P.info? f.type).map (·.size)).getD 0)) w := by
 have key : ∀ (l : List Field), (∀ f ∈ l, (C.P.info? f.type).isSome = true) →
   (l.mapM fun f => Functor.map (Prod.mk f.offset) (sizeOf f.type) : Sem (List (Nat × Nat))).run C.P w = .ok (l.map fun f => (f.offset, ((C.P.info? f.type).map (·.size)).getD 0)) w := by
  intro l
  induction l with
  | nil => intro _; simp
  | cons f l ih =>
   intro hl
   obtain ⟨j, hj⟩ := Option.isSome_iff_exists.1 (hl f (by simp))
   have := ih fun g hg => hl g (by simp [hg])
   simp only [List.mapM_cons, Sem.run_bind, Sem.run_map, run_sizeOf hj, Result.andThen_ok, this, Sem.run_pure, List.map_cons, hj, Option.map_some, Option.getD_some]
 have hl : ∀ f ∈ fs.toList, (C.P.info? f.type).isSome = true := by
  intro f hf
  simp only [Array.all_eq_true] at h
  obtain ⟨i, hi, rfl⟩ := List.getElem_of_mem hf
  simpa using h i (by simpa using hi)
 rw [Array.mapM_eq_mapM_toList]
 simp only [Sem.run_map, key fs.toList hl, Result.andThen_ok]
 congr 1
 apply Array.ext'
 simp
theorem placesOf_eq {fs : Array Field} : ∀ {parts : List (Nat × Operand)} {ps : List (Nat × Nat)} (ρ : Operand → Value), placesOf C.P fs parts = some ps →
  ((parts.map fun x => (x.1, ρ x.2)).map fun x => (fs.map fun f => (f.offset, ((C.P.info? f.type).map (·.size)).getD 0))[x.1]?) = ps.map some
 | [], ps, ρ, h => by simp [placesOf] at h; subst h; rfl
 | (i, x) :: parts, ps, ρ, h => by
  simp only [placesOf, List.mapM_cons, Option.bind_eq_bind, Option.bind_eq_some_iff, Option.map_eq_some_iff, Option.pure_def, Option.some.injEq] at h
  obtain ⟨q, ⟨f, hf, j, hj, rfl⟩, qs, hqs, rfl⟩ := h
  simp only [List.map_cons, List.cons.injEq]
  refine ⟨by simp [hf, hj], placesOf_eq ρ (by simpa [placesOf] using hqs)⟩
theorem case_build {ρ : Operand → Value} {o : Oper} {t : TypeId} {parts : Array (Nat × Operand)} {zs : List DV} {ps : List (Nat × Nat)} (ho : o.op = .build t parts) {args : List PV} (hS : Sim C X w M E)
  (hA : RepP w (away X M E) M E ((opsOf o.op).map ρ) args) (hok : okKind C.P (.build t parts) (.build zs ps) = true) {base : Nat}
  (h : runOp C base (.build zs ps) args M K KP) : Outc C X w M E K KP ((execOp ρ o).run C.P w) := by
 simp only [runOp] at h
 split at h
 ·rename_i cs hcs
  simp only [okKind] at hok
  split at hok
  ·rename_i inf hinf
   split at hok
   ·rename_i z hz
    simp only [Bool.and_eq_true] at hok
    obtain ⟨hz1, hok⟩ := hok
    simp only [ho, opsOf] at hA
    have hA' : RepP w (away X M E) M E (((parts.toList.map fun x => (x.1, ρ x.2))).map (·.2)) args := by simpa [List.map_map, Function.comp_def] using hA
    split at hok
    ·rename_i fs hfs
     simp only [Bool.and_eq_true, decide_eq_true_eq] at hok
     obtain ⟨hall, hps⟩ := hok
     obtain ⟨vs', g1, g2⟩ := fill_rep (vs := z.cells) (placesOf_eq ρ hps) hA' (RepP.ofD (constRepL_rep hz1)) hcs
     have hrun : (execOp ρ o).run C.P w = .ok (.value (.agg vs')) w := by
      have hm := mapM_sizes (w := w) hall
      simp only [execOp, ho, Instr.build, zeroValue, typeInfo, Sem.run_bind, run_program, Result.andThen_ok, hinf, Sem.run_pure, hz, run_underlying hfs, bind_pure_comp, Sem.run_map, hm]
      rw [show (Array.map (fun x => (x.1, ρ x.2)) parts).toList = parts.toList.map (fun x => (x.1, ρ x.2)) by simp, g1]
      simp
     rw [hrun]
     exact .same hS h (by simpa using Rep.mkAgg g2)
    ·rename_i n e hfs
     split at hok
     ·rename_i j hj
      simp only [decide_eq_true_eq] at hok
      obtain ⟨vs', g1, g2⟩ := fill_rep (place := fun i => some (i * j.size, j.size)) (parts := parts.toList.map fun x => (x.1, ρ x.2)) (ps := ps) (vs := z.cells) (by subst hok; simp [Function.comp_def]) hA' (RepP.ofD (constRepL_rep hz1)) hcs
      have hrun : (execOp ρ o).run C.P w = .ok (.value (.agg vs')) w := by
       simp only [execOp, ho, Instr.build, zeroValue, typeInfo, Sem.run_bind, run_program, Result.andThen_ok, hinf, Sem.run_pure, hz, run_underlying hfs, bind_pure_comp, Sem.run_map, run_sizeOf hj]
       rw [show (Array.map (fun x => (x.1, ρ x.2)) parts).toList = parts.toList.map (fun x => (x.1, ρ x.2)) by simp, g1]
       simp
      rw [hrun]
      exact .same hS h (by simpa using Rep.mkAgg g2)
     ·cases hok
    ·cases hok
   ·cases hok
  ·cases hok
 ·exact h.elim
theorem fillS_rep {sz : Nat} {O : Nat → Prop} : ∀ {parts : List (Nat × Value)} {is : List Nat} {ds xs xs' : List DV} {vs : Array Value},
  parts.map (·.1) = is → RepL w O (parts.map (·.2)) ds → RepL w O vs.toList (flat xs) → (∀ x ∈ xs, x.cells.length = sz) → fillS sz xs is ds = some xs' →
  ∃ vs', Instr.fill (fun i => some (i * sz, sz)) vs parts = some vs' ∧ RepL w O vs'.toList (flat xs') ∧ (∀ x ∈ xs', x.cells.length = sz) ∧ xs'.length = xs.length
 | [], [], [], xs, xs', vs, _, _, hc, hx, hf => by simp only [fillS, Option.some.injEq] at hf; subst hf; exact ⟨vs, rfl, hc, hx, rfl⟩
 | (i, v) :: parts, i' :: is, a :: ds, xs, xs', vs, hp, hA, hc, hx, hf => by
  simp only [List.map_cons, List.cons.injEq] at hp
  obtain ⟨rfl, hp2⟩ := hp
  cases hA with
  | cons h1 h2 =>
   simp only [fillS] at hf
   split at hf
   ·rename_i hcond
    obtain ⟨e1, e2⟩ := hcond
    have hcells : RepL w O v.cells.toList a.cells := RepD.cellsL h1
    have hlen := hcells.length
    have hlenc := hc.length
    have hvn : v.cells.size = sz := by simp at hlen; omega
    have hfl : (flat xs).length = xs.length * sz := flat_length hx
    have hin : i * sz + sz ≤ xs.length * sz := by rw [← Nat.succ_mul]; exact Nat.mul_le_mul_right _ e2
    have hbound : i * sz + sz ≤ vs.size := by simp at hlenc; omega
    have hst := fill_step (i * sz) sz v vs hvn hbound
    have hset : flat (xs.set i a) = splice (flat xs) (i * sz + 0) a.cells := flat_set hx e2 e1 (by
     simp only [splice, List.take_zero, List.nil_append, Nat.zero_add]
     rw [List.drop_eq_nil_of_le (by rw [hx _ (List.getElem_mem e2)]; omega), List.append_nil]) (by omega)
    obtain ⟨vs', g1, g2, g3, g4⟩ := fillS_rep (vs := v.cells.zipIdx.foldl (fun cs (c, j) => cs.setIfInBounds (i * sz + j) c) vs) hp2 h2
     (by rw [hst, hset]; exact hc.splice hcells _) (fun x hx' => (List.mem_or_eq_of_mem_set hx').elim (hx x) (fun e => e ▸ e1)) hf
    refine ⟨vs', ?_, g2, g3, by simpa using g4⟩
    simp only [Instr.fill]
    rw [if_neg (by simp [hvn]; omega)]
    exact g1
   ·cases hf
theorem zeros_rep {w : World} {O : Nat → Prop} {z : Array Value} {sz : Nat} (hz : z.size = sz) (hsz : 0 < sz) : ∀ {zs : List DV}, (zs.all fun d => constRepL d.cells z.toList) = true →
  RepL w O ((Array.range (zs.length * sz)).map (z[· % sz]!)).toList (flat zs)
 | [], _ => by simpa [flat] using .nil
 | d :: zs, h => by
  simp only [List.all_cons, Bool.and_eq_true] at h
  rw [flat_cons]
  have e : ((Array.range ((d :: zs).length * sz)).map (z[· % sz]!)).toList = z.toList ++ ((Array.range (zs.length * sz)).map (z[· % sz]!)).toList := by
   apply List.ext_getElem
   ·simp [hz]; rw [Nat.add_mul]; omega
   ·intro i h1 h2
    simp only [Array.toList_map, Array.toList_range, List.getElem_map, List.getElem_range, List.getElem_append, Array.length_toList]
    split
    ·rename_i hi
     rw [Nat.mod_eq_of_lt (by omega)]
     simp [getElem!_pos z i hi]
    ·rename_i hi
     have : (i - z.size) % sz = i % sz := by rw [hz, ← Nat.mod_eq_sub_mod (by omega)]
     rw [this]
  rw [e]
  exact (constRepL_rep h.1).append (zeros_rep hz hsz h.2)
theorem case_mkSl {ρ : Operand → Value} {o : Oper} {t : TypeId} {len sz : Nat} {parts : Array (Nat × Operand)} {zs : List DV} {is : List Nat} (ho : o.op = .buildSlice t len parts) {args : List PV} (hS : Sim C X w M E)
  (hA : RepP w (away X M E) M E ((opsOf o.op).map ρ) args) (hok : okKind C.P (.buildSlice t len parts) (.mkSl sz zs is) = true) {base : Nat}
  (h : runOp C base (.mkSl sz zs is) args M K KP) : Outc C X w M E K KP ((execOp ρ o).run C.P w) := by
 simp only [runOp] at h
 split at h
 ·rename_i ds hds
  split at h
  ·rename_i xs hxs
   simp only [okKind] at hok
   split at hok
   ·rename_i e he
    split at hok
    ·rename_i inf hinf
     split at hok
     ·rename_i z hz
      simp only [Bool.and_eq_true, decide_eq_true_eq, beq_iff_eq] at hok
      obtain ⟨⟨⟨⟨⟨⟨hsz, hs⟩, hzs⟩, hlim⟩, hzl⟩, hzall⟩, his⟩ := hok
      simp only [ho, opsOf] at hA
      have hA' := (datumL_frz hS hA hds (fun q hq => hq)).strip
      have hA2 : RepL w (away X (M.frz args) E) ((parts.toList.map fun x => (x.1, ρ x.2)).map (·.2)) (ds.map DV.strip) := by simpa [List.map_map, Function.comp_def] using hA'
      have hzx : ∀ x ∈ zs, x.cells.length = sz := by
       intro x hx
       simp only [List.all_eq_true] at hzall
       have := (constRepL_rep (w := w) (O := fun _ => False) (hzall x hx)).length
       simp at this; omega
      obtain ⟨vs', g1, g2, g3, g4⟩ := fillS_rep (vs := (Array.range (zs.length * sz)).map (z.cells[· % sz]!)) (by subst his; simp [Function.comp_def]) hA2 (zeros_rep hzs hsz hzall) hzx hxs
      have hne : ¬ (len * sz > 2 ^ 24) := by omega
      have hrun : (execOp ρ o).run C.P w = .ok (.value (.slice (some ⟨w.heap.size, 0, none⟩) len len)) (w.alloc (.cells vs' e)) := by
       simp only [execOp, ho, Instr.buildSlice, Sem.run_bind, run_underlying he, Result.andThen_ok, run_sizeOf hinf, hs, hne, if_false, bind_pure_comp, Sem.run_map, Sem.run_ite, Sem.run_pure]
       have hzv : (zeroValue e).run C.P w = .ok z w := by simp [zeroValue, typeInfo, hinf, hz]
       have hpl : (Array.map (fun x => (x.1, ρ x.2)) parts).toList = parts.toList.map (fun x => (x.1, ρ x.2)) := by simp
       rw [hzl] at g1
       by_cases h0 : len * sz = 0
       ·have ez : ∀ (f : Nat → Value), Array.map f (Array.range (len * sz)) = #[] := by intro f; rw [h0]; simp
        rw [ez] at g1
        rw [h0] at ez
        simp only [h0, if_true, hpl, ez, g1]
        simp only [newRow, Sem.run_map, run_newObj_alloc, bind_pure_comp, Result.andThen_ok]
       ·simp only [h0, if_false, hzv, Result.andThen_ok, hzs, hpl, g1, newRow, Sem.run_map, run_newObj_alloc, bind_pure_comp]
      rw [hrun]
      have hl := Later.alloc w (.cells vs' e)
      have s1 := (sim_frz hS args).later hl
      have s2 := (from_frz args w (M := M) (E := E)).trans (hl.from (M.frz args) E)
      refine ⟨_, _, _, h, s1, s2, .d ?_⟩
      have hlen : xs.length = len := by omega
      by_cases h0 : len = 0
      ·have : xs = [] := List.length_eq_zero_iff.1 (by omega)
       subst this; subst h0
       exact .empty (fun _ => rfl)
      ·refine .slice (sz := sz) (heap_alloc_new w _) (fun hh => ?_) hlen g3 (Nat.le_refl _) (fun _ => rfl) ?_
       ·exact absurd ((sim_frz hS args).away_lt hh) (by omega)
       ·have hfl : (flat xs).length = len * sz := by rw [flat_length g3, hlen]
        have hvl := g2.length
        rw [List.drop_zero, List.take_of_length_le (by rw [hvl, hfl]; exact Nat.le_refl _)]
        exact g2.from (hl.from (M.frz args) E)
     ·cases hok
    ·cases hok
   ·cases hok
  ·exact h.elim
 ·exact h.elim
theorem okAgg_run {P : Program} {t : TypeId} {agg : Bool} {n : Nat} (h : okAgg P t agg n = true) (w : World) : (isAgg t).run P w = .ok agg w ∧ (agg = true → (sizeOf t).run P w = .ok n w) ∧ (agg = false → n = 1) := by
 simp only [okAgg] at h
 split at h
 ·rename_i fs i hu hi
  simp only [Bool.and_eq_true, beq_iff_eq, decide_eq_true_eq] at h
  obtain ⟨⟨rfl, rfl⟩, _⟩ := h
  exact ⟨by simp [isAgg, run_underlying hu], fun _ => run_sizeOf hi, fun h => by cases h⟩
 ·rename_i m e i hu hi
  simp only [Bool.and_eq_true, beq_iff_eq, decide_eq_true_eq] at h
  obtain ⟨⟨rfl, rfl⟩, _⟩ := h
  exact ⟨by simp [isAgg, run_underlying hu], fun _ => run_sizeOf hi, fun h => by cases h⟩
 ·rename_i oi d hu h1 h2
  simp only [Bool.and_eq_true, beq_iff_eq, Bool.not_eq_true'] at h
  obtain ⟨rfl, rfl⟩ := h
  refine ⟨?_, (fun h => by cases h), fun _ => rfl⟩
  cases hi : P.info? t with
  | none => exfalso; simp [Program.underlying, hi] at hu
  | some j =>
   cases d with
   | struct fs => exact (h1 fs j hi rfl).elim
   | array m e => exact (h2 m e j hi rfl).elim
   | _ => simp [isAgg, run_underlying hu]
 ·cases h
theorem okAgg_pos {P : Program} {t : TypeId} {agg : Bool} {n : Nat} (h : okAgg P t agg n = true) : 0 < n := by
 simp only [okAgg] at h
 split at h
 ·simp only [Bool.and_eq_true, decide_eq_true_eq] at h; exact h.2
 ·simp only [Bool.and_eq_true, decide_eq_true_eq] at h; exact h.2
 ·simp only [Bool.and_eq_true, beq_iff_eq] at h; omega
 ·cases h
theorem run_loadAt {P : Program} {t : TypeId} {agg : Bool} {n blk p : Nat} {cs : Array Value} {T : TypeId} {fz : Nat × Nat} (h : okAgg P t agg n = true) (hb : w.heap[blk]? = some (.cells cs T fz)) (hp : p + n ≤ cs.size) :
  (Instr.loadAt t (.pointer (some ⟨blk, p, none⟩))).run P w = .ok (bif agg then .agg ((cs.toList.drop p).take n).toArray else cs.toList.getD p undef) w := by
 obtain ⟨h1, h2, h3⟩ := okAgg_run h w
 cases agg with
 | true =>
  have hl : ((cs.toList.drop p).take n).length = n := by simp; omega
  have := run_loadCells_list (P := P) w ⟨blk, p, none⟩ ((cs.toList.drop p).take n) (fun j v hj => by
   rw [Addr.add_lit, cell_of_row w blk (p + j) cs T fz hb]
   rw [List.getElem?_take] at hj
   split at hj
   ·rw [List.getElem?_drop] at hj; simpa using hj
   ·cases hj)
  rw [hl] at this
  simp [Instr.loadAt, Instr.sureAddr, loadVar, h1, h2 rfl, this]
 | false =>
  have hn := h3 rfl
  subst hn
  have hlt : p < cs.size := by omega
  have hc : w.cell? ⟨blk, p, none⟩ = some cs[p] := by rw [cell_of_row w blk p cs T fz hb]; simp [hlt]
  simp [Instr.loadAt, Instr.sureAddr, loadVar, h1, run_load, hc, List.getD, hlt]
theorem load_data {P : Program} {O : Nat → Prop} {t : TypeId} {agg : Bool} {n blk p : Nat} {cs : Array Value} {T : TypeId} {fz : Nat × Nat} {ds : List DV} (h : okAgg P t agg n = true) (hb : w.heap[blk]? = some (.cells cs T fz))
  (hr : RepL w O ((cs.toList.drop p).take n) ds) (hn : ds.length = n) :
  ∃ v, (Instr.loadAt t (.pointer (some ⟨blk, p, none⟩))).run P w = .ok v w ∧ RepD w O v (bif agg then .agg ds else ds.getD 0 default) := by
 have hl := hr.length
 simp only [List.length_take, List.length_drop, Array.length_toList] at hl
 have h3 := (okAgg_run h w).2.2
 refine ⟨_, run_loadAt h hb ?_, ?_⟩
 ·cases agg with
  | false => have := h3 rfl; omega
  | true => have := okAgg_pos h; omega
 ·cases agg with
  | true => exact .agg (by simpa using hr)
  | false =>
   have hn1 := h3 rfl
   subst hn1
   obtain ⟨d, rfl⟩ := List.length_eq_one_iff.1 hn
   obtain ⟨v, hv, hrd⟩ := hr.get' 0 d rfl
   rw [List.getElem?_take] at hv
   simp only [Nat.zero_lt_one, if_true, List.getElem?_drop, Nat.add_zero] at hv
   simp only [cond_false, List.getD_cons_zero]
   rw [List.getD, hv]
   exact hrd
end
end Go.Am
