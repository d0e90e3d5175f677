/-
  Part 5 of the proof of a law of plates: an abstract machine over the model, contracts of functions, plain laws.
  Conditions: none.
-/
import Derived.Test.YticjmjdcggomgaaGreatDoorM04
set_option linter.all false
namespace Go.Am
section
variable {C : Ctx} {X : Nat → Prop} {w : World} {M : Mem} {E : Emb} {K : PV → Mem → Prop} {KP : DV → Mem → Prop} {O : Nat → Prop}
theorem case_slcS {ρ : Operand → Value} {o : Oper} {t : TypeId} {x : Operand} {olo ohi omx : Option Operand} {lo hi : Bool} (ho : o.op = .slice t x olo ohi omx) {args : List PV} (hS : Sim C X w M E)
  (hA : RepP w (away X M E) M E ((opsOf o.op).map ρ) args) (hok : okKind C.P (.slice t x olo ohi omx) (.slcS lo hi) = true) {base : Nat} (h : runOp C base (.slcS lo hi) args M K KP) : Outc C X w M E K KP ((execOp ρ o).run C.P w) := by
 simp only [okKind, Bool.and_eq_true, beq_iff_eq] at hok
 obtain ⟨⟨⟨hu, h1⟩, h2⟩, h3⟩ := hok
 split at hu
 ·rename_i hun
  have hmx : omx = none := by simpa using h3
  subst hmx
  simp only [ho, opsOf, List.map_cons, List.cons_append] at hA
  simp only [runOp] at h
  unfold runSlcS at h
  split at h
  ·rename_i s l
   cases hA with
   | cons hx hl =>
    obtain ⟨a, b, m, ⟨_, q1, q2, q3, hK⟩, ba, bb, bm⟩ := bounds_of h h1 h2 (omx := none) rfl hl
    have hv := hx.toD.str_inv
    have hbn := run_bounds (P := C.P) (isSlice := false) ba bb (mx := none) (m := none) (.inl ⟨rfl, rfl⟩) (fun _ hh => by cases hh) q1 q2 q3 (Nat.le_refl _) w
    have hrun : (execOp ρ o).run C.P w = .ok (.value (.string (s.extract (a.getD 0).toNat (b.getD s.size).toNat))) w := by
     simp only [execOp, ho, Sem.run_bind, hv, Option.map_none]
     rw [run_sliceAt_string w t _ _ _ _ hun]
     simp only [Instr.slice, Sem.run_bind, run_underlying hun, Result.andThen_ok, Option.isSome_none, Bool.false_eq_true, if_false, hbn, Sem.run_pure, pure_bind]
    rw [hrun]
    exact .same hS hK (.d (.str _))
  ·exact h.elim
 ·cases hu
theorem RepD.slice_full {w : World} {O : Nat → Prop} {v : Value} {ex : Bool} {xs : List DV} (h : RepD w O v (.slice ex xs)) : ∃ a cap, v = .slice a xs.length cap ∧ xs.length ≤ cap ∧ (ex = true → cap = xs.length) ∧
  (xs = [] ∨ ∃ blk off sz cs T fz, a = some ⟨blk, off, none⟩ ∧ w.heap[blk]? = some (.cells cs T fz) ∧ ¬ O blk ∧ (∀ x ∈ xs, x.cells.length = sz) ∧ RepL w O ((cs.toList.drop off).take (xs.length * sz)) (flat xs)) := by
 cases h with
 | empty hx => exact ⟨_, _, rfl, Nat.zero_le _, hx, .inl rfl⟩
 | slice hb ho hl hs hc hx hh => subst hl; exact ⟨_, _, rfl, hc, hx, .inr ⟨_, _, _, _, _, _, rfl, hb, ho, hs, hh⟩⟩
theorem slice_data {P : Program} {t e : TypeId} {inf : TypeInfo} {v : Value} {ex : Bool} {xs : List DV} {lo hi mx : Option Value} {a b m : Option Int} (hun : P.underlying t = some (.slice e)) (hinf : P.info? e = some inf)
  (hsz : ∀ x ∈ xs, x.cells.length = inf.size) (hv : RepD w O v (.slice ex xs))
  (ha : BoundV lo a) (hb : BoundV hi b) (hm : BoundV mx m) (hmb : ∀ m', m = some m' → b = some m') (h0 : 0 ≤ a.getD 0) (h1 : a.getD 0 ≤ b.getD xs.length) (h2 : b.getD xs.length ≤ xs.length) :
  ∃ u, (Instr.sliceAt t v lo hi mx).run P w = .ok u w ∧ RepD w O u (.slice (mx.isSome || (ex && !hi.isSome)) ((xs.take (b.getD xs.length).toNat).drop (a.getD 0).toNat)) := by
 have hpe : P.elem t = e := by simp [Program.elem, hun]
 have hun' : P.underlying t = some (.slice (P.elem t)) := by rw [hpe]; exact hun
 obtain ⟨av, cap, rfl, hcap, hcx, hplace⟩ := hv.slice_full
 have hbn := run_bounds (P := P) (isSlice := true) ha hb hm hmb h0 h1 h2 hcap w
 have hmv2 : (b.getD xs.length).toNat ≤ (m.map Int.toNat).getD cap ∧ (m.map Int.toNat).getD cap ≤ cap := by
  cases m with
  | none => simp only [Option.map_none, Option.getD_none]; omega
  | some m' => have := hmb m' rfl; subst this; simp only [Option.getD_some] at h2; simp only [Option.map_some, Option.getD_some]; omega
 have hex : (mx.isSome || (ex && !hi.isSome)) = true → (m.map Int.toNat).getD cap = (b.getD xs.length).toNat := by
  intro hx
  rcases hm with ⟨rfl, rfl⟩ | ⟨km, nm, rfl, rfl⟩
  ·simp only [Option.isSome_none, Bool.false_or, Bool.and_eq_true, Bool.not_eq_true'] at hx
   obtain ⟨hx1, hx2⟩ := hx
   rcases hb with ⟨rfl, rfl⟩ | ⟨kb, nb, rfl, rfl⟩
   ·simp only [Option.getD_none, Option.map_none]
    rw [hcx hx1]; simp
   ·cases hx2
  ·have := hmb nm rfl; subst this
   simp
 generalize (m.map Int.toNat).getD cap = mv at hbn hmv2 hex
 have hlh : (a.getD 0).toNat ≤ (b.getD xs.length).toNat := by omega
 have hhl : (b.getD xs.length).toNat ≤ xs.length := by omega
 generalize (a.getD 0).toNat = l at *
 generalize (b.getD xs.length).toNat = hh at *
 refine ⟨sliced av l hh mv inf.size, ?_, ?_⟩
 ·rw [run_sliceAt_slice w t _ _ _ _ hun', run_slice_any w t av xs.length cap hun', hbn, hpe]
  simp only [Result.andThen_ok, run_sizeOf hinf]
 ·simp only [sliced]
  by_cases hle : l = hh
  ·have : (xs.take hh).drop l = [] := List.drop_eq_nil_of_le (by simp; omega)
   rw [this, hle, Nat.sub_self]
   exact .empty (fun hx => by rw [hex hx]; omega)
  ·have hne : mv ≠ l := by omega
   rw [if_neg hne]
   rcases hplace with rfl | ⟨blk, off, sz, cs, T, fz, rfl, hb1, ho, hs, hr⟩
   ·simp at hhl; omega
   ·have hszz : sz = inf.size := by
     have h0' : 0 < xs.length := by omega
     rw [← hs _ (List.getElem_mem h0'), hsz _ (List.getElem_mem h0')]
    subst hszz
    simp only [Option.map_some, Addr.add_lit]
    refine .slice hb1 ho (by simp; omega) (fun x hx => hs x (List.mem_of_mem_take (List.mem_of_mem_drop hx))) (by omega) (fun hx => by have := hex hx; omega) ?_
    rw [List.drop_take, ← flat_take (fun x hx => hs x (List.mem_of_mem_drop hx)), ← flat_drop hs]
    have h5 := (hr.drop (l * inf.size)).take ((hh - l) * inf.size)
    rw [List.drop_take, List.drop_drop, List.take_take] at h5
    have : (hh - l) * inf.size ≤ xs.length * inf.size - l * inf.size := by
     rw [← Nat.sub_mul]; exact Nat.mul_le_mul_right _ (by omega)
    rw [Nat.min_eq_left this] at h5
    exact h5
theorem isSome_map {α β : Type} (f : α → β) (o : Option α) : (o.map f).isSome = o.isSome := by cases o <;> rfl
theorem case_slcD {ρ : Operand → Value} {o : Oper} {t : TypeId} {x : Operand} {olo ohi omx : Option Operand} {sz : Nat} {lo hi mx : Bool} (ho : o.op = .slice t x olo ohi omx) {args : List PV} (hS : Sim C X w M E)
  (hA : RepP w (away X M E) M E ((opsOf o.op).map ρ) args) (hok : okKind C.P (.slice t x olo ohi omx) (.slcD sz lo hi mx) = true) {base : Nat} (h : runOp C base (.slcD sz lo hi mx) args M K KP) : Outc C X w M E K KP ((execOp ρ o).run C.P w) := by
 simp only [okKind, Bool.and_eq_true, beq_iff_eq] at hok
 obtain ⟨⟨⟨hu, h1⟩, h2⟩, h3⟩ := hok
 split at hu
 ·rename_i e hun
  split at hu
  ·rename_i inf hinf
   simp only [Bool.and_eq_true, beq_iff_eq, decide_eq_true_eq] at hu
   obtain ⟨hsz, hpos⟩ := hu
   subst hsz
   have hpe : C.P.elem t = e := by simp [Program.elem, hun]
   have hun' : C.P.underlying t = some (.slice (C.P.elem t)) := by rw [hpe]; exact hun
   simp only [ho, opsOf, List.map_cons, List.cons_append] at hA
   simp only [runOp] at h
   have hfin : ∀ {u : Value}, (Instr.sliceAt t (ρ x) (olo.map ρ) (ohi.map ρ) (omx.map ρ)).run C.P w = .ok u w → (execOp ρ o).run C.P w = .ok (.value u) w := by
    intro u hu
    simp only [execOp, ho, Sem.run_bind, hu, Result.andThen_ok, Sem.run_pure]
   unfold runSlcD at h
   split at h
   ·rename_i ex xs l
    cases hA with
    | cons hx hl =>
     obtain ⟨a, b, m, ⟨hsz, q1, q2, q3, q4, hK⟩, ba, bb, bm⟩ := bounds_of h h1 h2 h3 hl
     obtain ⟨u, g1, g2⟩ := slice_data (P := C.P) hun hinf hsz hx.toD ba bb bm q4 q1 q2 q3
     rw [hfin g1]
     refine .same hS hK (.d ?_)
     simp only [isSome_map, h2, h3] at g2
     exact g2
   ·rename_i k ver skip l
    cases hA with
    | cons hx hl =>
     obtain ⟨a, b, m, hQ, ba, bb, bm⟩ := bounds_of h h1 h2 h3 hl
     split at hQ
     ·rename_i A hrow
      obtain ⟨hA1, hver⟩ := row_eq hrow
      have hfitsz := (hS.arr k A hA1).2.1
      split at hQ
      ·obtain ⟨hAsz, rfl, q1, q2, hK⟩ := hQ
       generalize hv : ρ x = v at hx hfin
       cases hx with
       | tsl hlt hh =>
        rename_i len cap av
        obtain ⟨hle, hh2⟩ := hh A hA1
        obtain ⟨loc, h4, h5, h6⟩ := hh2 hver
        cases loc with
        | some q =>
         obtain ⟨blk, o1, e1⟩ := q
         simp only at h6
         have key : ∀ av len cap, len = A.elems.length - skip → len ≤ cap → (Instr.sliceAt t (.slice av len cap) (olo.map ρ) (ohi.map ρ) (omx.map ρ)).run C.P w = .ok (sliced av (a.getD 0).toNat len cap inf.size) w := by
          intro av len cap e1 e2
          have hbn := run_bounds (P := C.P) (isSlice := true) ba bb bm (fun _ hh => by cases hh) q1 (by simp only [Option.getD_none]; omega) (by simp only [Option.getD_none]; omega) e2 w
          rw [run_sliceAt_slice w t _ _ _ _ hun', run_slice_any w t av len cap hun', hbn, hpe]
          simp only [Result.andThen_ok, run_sizeOf hinf, Option.getD_none]
          congr 2
         rcases h6 with ⟨cap', he, hc, hcap⟩ | ⟨hn, a', he⟩
         ·cases he
          rw [hfin (key _ _ _ rfl hc)]
          simp only [sliced]
          have hal : (a.getD 0).toNat ≤ A.elems.length - skip := by omega
          refine .same hS hK (.tsl hlt fun B hB => ?_)
          rw [hA1] at hB; cases hB
          refine ⟨hle, fun _ => ⟨_, h4, by omega, ?_⟩⟩
          by_cases hce : cap = (a.getD 0).toNat
          ·rw [if_pos hce]
           refine .inr ⟨by omega, some ⟨blk, o1 + skip * A.sz, none⟩, ?_⟩
           rw [show A.elems.length - skip - (a.getD 0).toNat = 0 by omega, show cap - (a.getD 0).toNat = 0 by omega]
          ·rw [if_neg hce]
           refine .inl ⟨cap - (a.getD 0).toNat, ?_, by omega, ?_⟩
           ·simp only [Option.map_some, Addr.add_lit, hAsz, Nat.add_mul, Nat.add_assoc, Nat.sub_sub]
           ·rw [← hcap]; congr 2; omega
         ·cases he
          have ha0 : (a.getD 0).toNat = 0 := by omega
          rw [hfin (key _ _ _ (by omega) (Nat.le_refl _))]
          simp only [sliced, ha0, if_true, Nat.sub_self]
          refine .same hS hK (.tsl hlt fun B hB => ?_)
          rw [hA1] at hB; cases hB
          exact ⟨hle, fun _ => ⟨_, h4, by omega, .inr ⟨by omega, _, rfl⟩⟩⟩
        | none =>
         simp only at h6
         have hdl : (A.elems.drop skip).length = A.elems.length - skip := by simp
         obtain ⟨u, g1, g2⟩ := slice_data (P := C.P) hun hinf (fun x hx => by rw [DV.fits_len (hfitsz x (List.mem_of_mem_drop hx)), hAsz]) h6 ba bb bm (fun _ hh => by cases hh) q1 (by simp only [Option.getD_none, hdl]; omega) (by simp)
         rw [hfin g1]
         have hhi : ohi = none := by
          rcases bb with ⟨e, _⟩ | ⟨_, _, _, e⟩
          ·simpa using e
          ·cases e
         have hmxn : omx = none := by
          rcases bm with ⟨e, _⟩ | ⟨_, _, _, e⟩
          ·simpa using e
          ·cases e
         subst hhi hmxn
         simp only [Option.map_none, Option.isSome_none, Bool.false_or, Bool.not_false, Bool.and_true, Option.getD_none] at g2
         have ht : (((A.elems.drop skip).take ((A.elems.drop skip).length : Int).toNat).drop (a.getD 0).toNat) = A.elems.drop (skip + (a.getD 0).toNat) := by
          rw [Int.toNat_natCast, List.take_length, List.drop_drop]
         rw [ht] at g2
         obtain ⟨av', c', hu⟩ := g2.slice_inv
         subst hu
         refine .same hS hK (.tsl hlt fun B hB => ?_)
         rw [hA1] at hB; cases hB
         exact ⟨hle, fun _ => ⟨none, h4, by omega, g2⟩⟩
      ·rename_i b'
       obtain ⟨hAsz, q1, q2, q3, q4, hK⟩ := hQ
       have hdl : (A.elems.drop skip).length = A.elems.length - skip := by simp
       have hd : datum M (.tsl k ver skip) = some (.slice false (A.elems.drop skip)) := by simp [datum, hrow]
       have hdd := datum_frz (ps := [PV.tsl k ver skip]) hS hx hd (by simp)
       obtain ⟨u, g1, g2⟩ := slice_data (P := C.P) hun hinf (fun x hx => by rw [DV.fits_len (hfitsz x (List.mem_of_mem_drop hx)), hAsz]) hdd ba bb bm (fun m' hm' => by rw [q4 m' hm']) q1 (by simpa using q2) (by simp only [Option.getD_some, hdl]; omega)
       rw [hfin g1]
       refine ⟨_, _, _, hK, sim_frz hS _, from_frz _ w, .d ?_⟩
       simp only [isSome_map, h2, h3, Bool.false_and, Bool.or_false, Option.getD_some] at g2
       exact g2
     ·exact hQ.elim
   ·exact h.elim
  ·cases hu
 ·cases hu
end
end Go.Am
namespace Go.Am
def Reads (w : World) (O : Nat → Prop) (sz : Nat) (v : Value) (ys : List DV) : Prop :=
 ∃ news : List Value, (∀ P, (Builtin.lenOf v).run P w = .ok ys.length w) ∧ (∀ P w', Later w w' → (Builtin.firstCells sz ys.length v).run P w' = .ok news.toArray w') ∧ RepL w O news (flat ys)
section
variable {C : Ctx} {X : Nat → Prop} {w : World} {M : Mem} {E : Emb} {K : PV → Mem → Prop} {KP : DV → Mem → Prop} {O : Nat → Prop}
theorem run_loadCells_zero (P : Program) (w : World) (a : Addr) : (loadCells a 0).run P w = .ok #[] w := by
 have := run_loadCells_list (P := P) w a [] (fun j v hj => by simp at hj)
 simpa using this
theorem reads_nil {sz cap : Nat} {a : Option Addr} : Reads w O sz (.slice a 0 cap) [] := by
 refine ⟨[], fun P => by simp [Builtin.lenOf], fun P w' _ => ?_, by simpa [flat] using .nil⟩
 cases a with
 | none => simp [Builtin.firstCells]
 | some a => simp [Builtin.firstCells, run_loadCells_zero]
theorem reads_row {sz blk off len cap : Nat} {ys : List DV} {cs : Array Value} {T : TypeId} {fz : Nat × Nat} (hb : w.heap[blk]? = some (.cells cs T fz))
  (hr : RepL w O ((cs.toList.drop off).take (len * sz)) (flat ys)) (hl : ys.length = len) (hs : ∀ y ∈ ys, y.cells.length = sz) : Reads w O sz (.slice (some ⟨blk, off, none⟩) len cap) ys := by
 subst hl
 have hlen : ((cs.toList.drop off).take (ys.length * sz)).length = ys.length * sz := by rw [hr.length, flat_length hs]
 refine ⟨_, fun P => by simp [Builtin.lenOf], fun P w' hw => ?_, hr⟩
 have := run_loadCells_list (P := P) w' ⟨blk, off, none⟩ ((cs.toList.drop off).take (ys.length * sz)) (fun j v hj => by
  rw [Addr.add_lit, cell_of_row w' blk (off + j) cs T fz (hw.keepS hb)]
  rw [List.getElem?_take] at hj
  split at hj
  ·rw [List.getElem?_drop] at hj; simpa using hj
  ·cases hj)
 rw [hlen] at this
 simpa [Builtin.firstCells] using this
theorem reads_data {sz : Nat} {v : Value} {ex : Bool} {ys : List DV} (hr : RepD w O v (.slice ex ys)) (hs : ∀ y ∈ ys, y.cells.length = sz) : Reads w O sz v ys := by
 cases hr with
 | empty hx => exact reads_nil
 | slice hb ho hl hs' hc hx hh =>
  rename_i blk off len cap sz' cs T fz
  cases ys with
  | nil =>
   subst hl
   exact reads_nil
  | cons y ys =>
   have : sz' = sz := by rw [← hs' y (by simp), hs y (by simp)]
   subst this
   exact reads_row hb hh hl hs
theorem reads_str {s : ByteArray} : Reads w O 1 (.string s) (s.data.toList.map fun b => .int .u8 b.toNat) := by
 have hfl : ∀ l : List UInt8, flat (l.map fun b => DV.int .u8 (b.toNat : Int)) = l.map fun b => DV.int .u8 (b.toNat : Int) := by
  intro l
  induction l with
  | nil => rfl
  | cons b l ih => rw [List.map_cons, flat_cons, ih]; rfl
 have hlen : (s.data.toList.map fun b => DV.int .u8 (b.toNat : Int)).length = s.size := by simp
 refine ⟨s.data.toList.map fun b => .int .u8 b.toNat, fun P => by rw [hlen]; simp [Builtin.lenOf], fun P w' _ => ?_, ?_⟩
 ·rw [hlen]
  have : s.extract 0 s.size = s := by simp
  simp only [Builtin.firstCells, this, Sem.run_pure]
  congr 1
  apply Array.ext'
  simp
 ·rw [hfl]
  generalize s.data.toList = l
  induction l with
  | nil => exact .nil
  | cons b l ih => exact .cons (.int _ _) ih
theorem tsl_at {k ver skip : Nat} {v : Value} {A : Arr} (hS : Sim C X w M E) (hr : Rep w (away X M E) M E v (.tsl k ver skip)) (hA : M.row k ver = some A) :
  M.arrs[k]? = some (some A) ∧ skip ≤ A.elems.length ∧ 0 < A.sz ∧ (∀ x ∈ A.elems, x.fits A.sz = true) ∧
  ((∃ (blk o e : Nat) (vs : Array Value) (T : TM vs.size) (cap : Nat), E.ar[k]? = some (some (blk, o, e)) ∧ w.heap[blk]? = some (.cells vs T.ty T.fr) ∧ o + A.elems.length * A.sz ≤ e ∧ e ≤ vs.size ∧
    RepL w (away X M E) ((vs.toList.drop o).take (A.elems.length * A.sz)) (flat A.elems) ∧
    ((v = .slice (some ⟨blk, o + skip * A.sz, none⟩) (A.elems.length - skip) cap ∧ A.elems.length - skip ≤ cap ∧ o + (skip + cap) * A.sz = e) ∨ (A.elems.length = skip ∧ cap = 0 ∧ ∃ a, v = .slice a 0 0))) ∨
  (E.ar[k]? = some none ∧ A.st ≠ 1 ∧ RepD w (away X M E) v (.slice true (A.elems.drop skip)))) := by
 obtain ⟨hA1, hv⟩ := row_eq hA
 obtain ⟨s1, s2, s3, s4⟩ := hS.arr k A hA1
 cases hr with
 | tsl hlt hh =>
  obtain ⟨_, h2⟩ := hh A hA1
  obtain ⟨loc, h3, h4, h5⟩ := h2 hv
  refine ⟨hA1, h4, s1, s2, ?_⟩
  cases loc with
  | some q =>
   obtain ⟨blk, o, e⟩ := q
   obtain ⟨_, vs, T, g2, g3, g4, g5⟩ := s4 blk o e h3
   simp only at h5
   rcases h5 with ⟨cap, q1, q2, q3⟩ | ⟨q1, a, q2⟩
   ·exact .inl ⟨blk, o, e, vs, T, cap, h3, g2, g3, g4, g5, .inl ⟨q1, q2, q3⟩⟩
   ·exact .inl ⟨blk, o, e, vs, T, 0, h3, g2, g3, g4, g5, .inr ⟨q1, rfl, a, q2⟩⟩
  | none =>
   refine .inr ⟨h3, fun hs => ?_, h5⟩
   obtain ⟨q, hq⟩ := s3 hs
   rw [h3] at hq; cases hq
theorem row_drop {A : Arr} {o skip : Nat} {vs : Array Value} (hfit : ∀ x ∈ A.elems, x.fits A.sz = true) (hr : RepL w O ((vs.toList.drop o).take (A.elems.length * A.sz)) (flat A.elems)) :
  RepL w O ((vs.toList.drop (o + skip * A.sz)).take ((A.elems.length - skip) * A.sz)) (flat (A.elems.drop skip)) := by
 have e1 : (vs.toList.drop (o + skip * A.sz)).take ((A.elems.length - skip) * A.sz) = (((vs.toList.drop o).take (A.elems.length * A.sz)).drop (skip * A.sz)) := by
  rw [List.drop_take, List.drop_drop, Nat.sub_mul]
 rw [e1, ← flat_drop (fun x hx => DV.fits_len (hfit x hx)) skip]
 exact hr.drop _
theorem reads_tsl {k ver skip : Nat} {v : Value} {A : Arr} (hS : Sim C X w M E) (hr : Rep w (away X M E) M E v (.tsl k ver skip)) (hA : M.row k ver = some A) : Reads w (away X M E) A.sz v (A.elems.drop skip) := by
 obtain ⟨_, h1, h2, h3, h4⟩ := tsl_at hS hr hA
 have hs : ∀ y ∈ A.elems.drop skip, y.cells.length = A.sz := fun y hy => DV.fits_len (h3 y (List.mem_of_mem_drop hy))
 rcases h4 with ⟨blk, o, e, vs, T, cap, q1, q2, q3, q4, q5, q6⟩ | ⟨_, _, hd⟩
 ·rcases q6 with ⟨rfl, q7, q8⟩ | ⟨q7, _, a, rfl⟩
  ·exact reads_row q2 (row_drop h3 q5) (by simp) hs
  ·rw [List.drop_eq_nil_of_le (by omega)]
   exact reads_nil
 ·exact reads_data hd hs
theorem Reads.size {sz sz' : Nat} {v : Value} {ys : List DV} (h : Reads w O sz v ys) (h1 : ∀ y ∈ ys, y.cells.length = sz) (h2 : ∀ y ∈ ys, y.cells.length = sz') (P : Program) (hn : ∃ a n cap, v = .slice a n cap) : Reads w O sz' v ys := by
 cases ys with
 | nil =>
  obtain ⟨a, n, cap, rfl⟩ := hn
  obtain ⟨news, q1, _, _⟩ := h
  have : n = 0 := by simpa [Builtin.lenOf] using q1 P
  subst this
  exact reads_nil
 | cons y ys =>
  have : sz = sz' := by rw [← h1 y (by simp), h2 y (by simp)]
  subst this
  exact h
theorem reads_appd {sz : Nat} {x : PV} {v : Value} {ys : List DV} (hS : Sim C X w M E) (hr : Rep w (away X M E) M E v x) (ha : appd sz x M = some ys) (hfit : ∀ y ∈ ys, y.fits sz = true) : Reads w (away X M E) sz v ys := by
 have hs : ∀ y ∈ ys, y.cells.length = sz := fun y hy => DV.fits_len (hfit y hy)
 unfold appd at ha
 split at ha
 ·simp only [Option.some.injEq] at ha; subst ha
  exact reads_data hr.toD hs
 ·split at ha
  ·rename_i hsz
   simp only [Option.some.injEq] at ha; subst ha; subst hsz
   have := hr.toD.str_inv
   subst this
   exact reads_str
  ·cases ha
 ·rw [Option.map_eq_some_iff] at ha
  obtain ⟨A, hA, rfl⟩ := ha
  have h3 := (tsl_at hS hr hA).2.2.2.1
  obtain ⟨a, cap, hv⟩ := hr.slice_inv hA
  exact (reads_tsl hS hr hA).size (fun y hy => DV.fits_len (h3 y (List.mem_of_mem_drop hy))) hs C.P ⟨_, _, _, hv⟩
 ·cases ha
theorem two_types {argTypes : Array TypeId} {p : Option TypeDesc → Option TypeDesc → Bool} {P : Program} (h : (argTypes.size == 2 && p (P.underlying (argTypes.getD 0 0)) (P.underlying (argTypes.getD 1 0))) = true) :
  ∃ t u, argTypes = #[t, u] ∧ p (P.underlying t) (P.underlying u) = true := by
 simp only [Bool.and_eq_true, beq_iff_eq] at h
 obtain ⟨h1, h2⟩ := h
 obtain ⟨l⟩ := argTypes
 match l, h1 with
 | [t, u], _ => exact ⟨t, u, rfl, by simpa using h2⟩
theorem case_app {ρ : Operand → Value} {o : Oper} {sz : Nat} {st1 : Bool} {argTypes : Array TypeId} {as : Array Operand} (ho : o.op = .call { callee := .builtin .append, args := as, argTypes }) {args : List PV} (hS : Sim C X w M E) (hA : RepP w (away X M E) M E ((opsOf o.op).map ρ) args)
  (hok : okKind C.P (.call { callee := .builtin .append, args := as, argTypes }) (.app sz st1) = true) {base : Nat} (h : runOp C base (.app sz st1) args M K KP) : Outc C X w M E K KP ((execOp ρ o).run C.P w) := by
 simp only [okKind] at hok
 simp only [ho, opsOf] at hA
 simp only [runOp] at h
 split at h
 ·rename_i s x
  obtain ⟨v, u, he, hr, hr2⟩ := repP_two hA
  have has : as.map ρ = #[v, u] := by apply Array.ext'; simpa using he
  obtain ⟨sT, xT, rfl, hu⟩ := two_types (p := fun a b => match a, b with
   | some (.slice e), some d => (match d with | .int _ => false | _ => true) && (match C.P.info? e with
    | some i => match i.zero with | some z => i.size == sz && decide (0 < sz) && decide (i.bytes ≤ 1024) && z.cells.size == sz | none => false
    | none => false)
   | _, _ => false) hok
  split at hu
  ·rename_i e d hun hund
   simp only [Bool.and_eq_true] at hu
   obtain ⟨hd, hu⟩ := hu
   split at hu
   ·rename_i inf hinf
    split at hu
    ·rename_i z hz
     simp only [Bool.and_eq_true, beq_iff_eq, decide_eq_true_eq] at hu
     obtain ⟨⟨⟨hsz, hpos⟩, hbytes⟩, hzs⟩ := hu
     have hdk : ∀ k, d ≠ .int k := by rintro k rfl; cases hd
     have hfin : ∀ {r : Value} {w' : World}, (Builtin.append_ #[sT, xT] o.type #[v, u]).run C.P w = .ok r w' → (execOp ρ o).run C.P w = .ok (.value r) w' := by
      intro r w' hh
      simp [execOp, ho, resolve, has, invoke, builtin, hh]
     unfold runApp at h
     split at h
     ·exact h.elim
     ·rename_i ys hys
      obtain ⟨_, hyf, hst1, h⟩ := h
      have hyl : ∀ y ∈ ys, y.cells.length = sz := fun y hy => DV.fits_len (hyf y hy)
      obtain ⟨news, n1, n2, n3⟩ := reads_appd hS hr2 hys hyf
      have hnl : news.length = ys.length * sz := by rw [n3.length, flat_length hyl]
      have hone : ∀ v ∈ news, v.oneCell' = true := n3.oneCell (by
       intro c hc
       simp only [flat, List.mem_flatMap] at hc
       obtain ⟨y, hy, hc⟩ := hc
       exact DV.fits_one (hyf y hy) c hc)
      have hnew : ∀ {olds rest : List Value} {xs : List DV}, RepL w (away X M E) olds (flat xs) → (∀ x ∈ xs, x.cells.length = sz) →
        RepL w (away X M E) ((((olds ++ news ++ rest).toArray).toList.drop 0).take ((xs ++ ys).length * sz)) (flat (xs ++ ys)) := by
       intro olds rest xs ho' hx
       have hol : olds.length = xs.length * sz := by rw [ho'.length, flat_length hx]
       have hon : (olds ++ news).length = (xs ++ ys).length * sz := by simp [hol, hnl, Nat.add_mul]
       rw [List.drop_zero, ← hon, List.take_left, flat_append]
       exact ho'.append n3
      split at h
      ·rename_i ex xs
       obtain ⟨rfl, hxf, hlim, hK⟩ := h
       have hxl : ∀ y ∈ xs, y.cells.length = sz := fun y hy => DV.fits_len (hxf y hy)
       obtain ⟨olds, o1, o2, o3⟩ := reads_data (sz := sz) hr.toD hxl
       have hol : olds.length = xs.length * sz := by rw [o3.length, flat_length hxl]
       have hcap : ∃ a, v = .slice a xs.length xs.length := by
        have hd := hr.toD
        cases hd with
        | empty hx => rw [hx rfl]; exact ⟨_, rfl⟩
        | slice hb ho' hl hs hc hx hh => rw [hx rfl, hl]; exact ⟨_, rfl⟩
       obtain ⟨a, rfl⟩ := hcap
       have hfit : ∀ x ∈ (xs ++ ys), x.fits sz = true := by
        intro x hx
        rcases List.mem_append.1 hx with hx | hx
        ·exact hxf x hx
        ·exact hyf x hx
       rcases run_append (ty := o.type) hun ⟨d, hund, hdk⟩ hinf hz hsz hbytes hzs (n1 C.P) (n2 C.P) hnl (o2 C.P) hol hlim hone (fun h1 h2 => by omega) with ⟨_, q2, q3⟩ | ⟨q1, q2, _⟩ | ⟨_, w', cap, rest, q3, q4, q5, q6, q7⟩
       ·have hy0 : ys = [] := List.length_eq_zero_iff.1 q2
        subst hy0
        have hs1 : st1 = false := by cases st1 <;> simp_all
        subst hs1
        rw [hfin q3]
        obtain ⟨t1, t2⟩ := sim_newrow (A := ⟨sz, xs ++ [], 0, 0⟩) (loc := none) hS (Later.refl w) hpos hfit (fun hh => by cases hh) (fun _ _ _ hh => by cases hh)
        refine ⟨_, _, _, hK, t1, t2, .tsl (by simp) fun B hB => ?_⟩
        have hBe : B = ⟨sz, xs ++ [], 0, 0⟩ := by simp at hB; simp [hB]
        subst hBe
        refine ⟨Nat.le_refl _, fun _ => ⟨none, by simp [← hS.lenA], Nat.zero_le _, ?_⟩⟩
        have := hr.toD.from t2
        simpa using this
       ·omega
       ·rw [hfin q3]
        have hlen : (xs ++ ys).length = xs.length + ys.length := by simp
        obtain ⟨t1, t2⟩ := sim_newrow (A := ⟨sz, xs ++ ys, 0, bif st1 then 1 else 0⟩) (loc := some (w.heap.size, 0, cap * sz)) hS q5 hpos hfit (fun _ hh => by cases hh) (fun blk o' e' hh => by
         cases hh
         refine ⟨Nat.le_refl _, _, .zero _ _, q6, ?_, ?_, hnew o3 hxl⟩
         ·show 0 + (xs ++ ys).length * sz ≤ cap * sz
          rw [Nat.zero_add, hlen]
          exact Nat.mul_le_mul_right _ q4
         ·rw [List.size_toArray, q7]; exact Nat.le_refl _)
        refine ⟨_, _, _, hK, t1, t2, .tsl (by simp) fun B hB => ?_⟩
        have hBe : B = ⟨sz, xs ++ ys, 0, bif st1 then 1 else 0⟩ := by simp at hB; simp [hB]
        subst hBe
        refine ⟨Nat.le_refl _, fun _ => ⟨some (w.heap.size, 0, cap * sz), by simp [← hS.lenA], Nat.zero_le _, .inl ⟨cap, ?_, ?_, ?_⟩⟩⟩
        ·simp
        ·simpa using q4
        ·simp
      ·rename_i k ver skip
       split at h
       ·rename_i A hrow
        obtain ⟨rfl, hst, hlim, hK⟩ := h
        obtain ⟨hA1, hskip, _, hAf, hat0⟩ := tsl_at hS hr hrow
        have hat := fun _ : Unit => hat0
        clear hat0
        have hxf : ∀ y ∈ A.elems.drop skip, y.fits A.sz = true := fun y hy => hAf y (List.mem_of_mem_drop hy)
        have hxl : ∀ y ∈ A.elems.drop skip, y.cells.length = A.sz := fun y hy => DV.fits_len (hxf y hy)
        obtain ⟨olds, o1, o2, o3⟩ := reads_tsl hS hr hrow
        have hdl : (A.elems.drop skip).length = A.elems.length - skip := by simp
        have hol : olds.length = (A.elems.length - skip) * A.sz := by rw [o3.length, flat_length hxl, hdl]
        have hklt : k < M.arrs.length := (List.getElem?_eq_some_iff.1 hA1).1
        have hver := (row_eq hrow).2
        have hver1 : A.ver < ver + 1 := by omega
        have hfit : ∀ x ∈ (A.elems.drop skip ++ ys), x.fits A.sz = true := by
         intro x hx
         rcases List.mem_append.1 hx with hx | hx
         ·exact hxf x hx
         ·exact hyf x hx
        obtain ⟨a, cap0, hv⟩ := hr.slice_inv hrow
        subst hv
        rw [hdl] at o2
        have hset : ∀ {B A' : Arr}, (M.arrs.set k (some A'))[k]? = some (some B) → B = A' := by
         intro B A' hB
         simp [hklt] at hB
         exact hB.symm
        have hkl : k < (M.arrs.set k (some (⟨A.sz, A.elems.drop skip ++ ys, ver + 1, bif st1 then 1 else A.st⟩ : Arr))).length := by simpa using hklt
        have hE : ∀ loc, (E.ar.set k loc)[k]? = some loc := fun loc => by simp [hS.lenA, hklt]
        have hroom : Unit → A.elems.length - skip + ys.length ≤ cap0 → ys.length ≠ 0 → ∃ (blk o e : Nat) (vs : Array Value) (T : TM vs.size), E.ar[k]? = some (some (blk, o, e)) ∧ w.heap[blk]? = some (.cells vs T.ty T.fr) ∧ o + A.elems.length * A.sz ≤ e ∧ e ≤ vs.size ∧
          RepL w (away X M E) ((vs.toList.drop o).take (A.elems.length * A.sz)) (flat A.elems) ∧ a = some ⟨blk, o + skip * A.sz, none⟩ ∧ o + (skip + cap0) * A.sz = e := by
         intro _ h1 h2
         rcases hat () with ⟨blk, o, e, vs, T, cap, p1, p2, p3, p4, p5, p6⟩ | ⟨_, _, hd⟩
         ·rcases p6 with ⟨hh, p7, p8⟩ | ⟨_, _, a', hh⟩
          ·cases hh; exact ⟨blk, o, e, vs, T, p1, p2, p3, p4, p5, rfl, p8⟩
          ·simp only [Value.slice.injEq] at hh
           omega
         ·obtain ⟨a', c', he', _, hcx, _⟩ := hd.slice_full
          simp only [Value.slice.injEq] at he'
          have := hcx rfl
          omega
        rcases run_append (ty := o.type) hun ⟨d, hund, hdk⟩ hinf hz hsz hbytes hzs (n1 C.P) (n2 C.P) hnl (o2 C.P) hol (by omega) hone (fun h1 h2 => by
          obtain ⟨blk, o', e', vs, T, p1, p2, p3, p4, p5, p6, p7⟩ := hroom () h1 h2
          refine ⟨blk, _, vs, T, p6, p2, ?_⟩
          rw [hnl, Nat.add_assoc, ← Nat.add_mul, Nat.add_assoc, ← Nat.add_mul]
          have : (skip + (A.elems.length - skip + ys.length)) * A.sz ≤ (skip + cap0) * A.sz := Nat.mul_le_mul_right _ (by omega)
          omega) with ⟨q1, q2, q3⟩ | ⟨q1, q2, w', g, og, cur, T, q3, q4, q5, q6⟩ | ⟨_, w', cap, rest, q3, q4, q5, q6, q7⟩
        ·have hy0 : ys = [] := List.length_eq_zero_iff.1 q2
         subst hy0
         have hs1 : st1 = false := by cases st1 <;> simp_all
         subst hs1
         rw [hfin q3]
         rcases hat () with ⟨blk, o, e, vs, T, cap, p1, p2, p3, p4, p5, p6⟩ | ⟨p1, p2, hd⟩
         ·obtain ⟨t1, t2⟩ := sim_rowset (A' := ⟨A.sz, A.elems.drop skip ++ [], ver + 1, A.st⟩) (loc := some (blk, o + skip * A.sz, e)) hS hA1 hst rfl rfl rfl (Nat.le_refl _) (fun _ _ _ hh => hh) hver1 hpos hfit (fun _ hh => by cases hh) (fun blk' o' e' hh => by
           cases hh
           refine ⟨.inr ⟨o, e, p1⟩, vs, T, p2, ?_, p4, ?_⟩
           ·simp only [List.append_nil, hdl]
            have : skip * A.sz + (A.elems.length - skip) * A.sz = A.elems.length * A.sz := by rw [← Nat.add_mul]; congr 1; omega
            omega
           ·simp only [List.append_nil, hdl]
            exact row_drop hAf p5)
          refine ⟨_, _, _, hK, t1, t2, .tsl hkl fun B hB => ?_⟩
          have hBe := hset hB
          subst hBe
          refine ⟨Nat.le_refl _, fun _ => ⟨_, hE _, Nat.zero_le _, ?_⟩⟩
          rcases p6 with ⟨hh, p7, p8⟩ | ⟨p7, _, a', hh⟩
          ·simp only [Value.slice.injEq] at hh
           obtain ⟨rfl, _, rfl⟩ := hh
           refine .inl ⟨cap0, ?_, ?_, ?_⟩
           ·simp
           ·simpa using p7
           ·simp only [Nat.zero_add]; rw [Nat.add_assoc, ← Nat.add_mul]; exact p8
          ·simp only [Value.slice.injEq] at hh
           obtain ⟨rfl, h2, rfl⟩ := hh
           refine .inr ⟨by simp; omega, a, ?_⟩
           rw [h2]; rfl
         ·obtain ⟨t1, t2⟩ := sim_rowset (A' := ⟨A.sz, A.elems.drop skip ++ [], ver + 1, A.st⟩) (loc := none) hS hA1 hst rfl rfl rfl (Nat.le_refl _) (fun _ _ _ hh => hh) hver1 hpos hfit (fun hh => absurd hh p2) (fun blk' o' e' hh => by cases hh)
          refine ⟨_, _, _, hK, t1, t2, .tsl hkl fun B hB => ?_⟩
          have hBe := hset hB
          subst hBe
          refine ⟨Nat.le_refl _, fun _ => ⟨_, hE _, Nat.zero_le _, ?_⟩⟩
          have := hd.from t2
          simpa using this
        ·obtain ⟨blk, o', e', vs, T', p1, p2, p3, p4, p5, p6, p7⟩ := hroom () q1 q2
         rw [p6] at q4
         simp only [Option.some.injEq, Addr.mk.injEq] at q4
         obtain ⟨rfl, rfl, _⟩ := q4
         rw [p2] at q5
         simp only [Option.some.injEq, Obj.cells.injEq] at q5
         obtain ⟨rfl, _, _⟩ := q5
         rw [hfin q3]
         have hmul : skip * A.sz + (A.elems.length - skip) * A.sz = A.elems.length * A.sz := by rw [← Nat.add_mul]; congr 1; omega
         have hmul2 : (A.elems.drop skip ++ ys).length * A.sz = (A.elems.length - skip) * A.sz + ys.length * A.sz := by rw [List.length_append, hdl, Nat.add_mul]
         have hle : (skip + (A.elems.length - skip + ys.length)) * A.sz ≤ (skip + cap0) * A.sz := Nat.mul_le_mul_right _ (by omega)
         rw [Nat.add_mul, Nat.add_mul (A.elems.length - skip)] at hle
         have hvl : vs.toList.length = vs.size := by simp
         obtain ⟨t1, t2⟩ := sim_rowset (A' := ⟨A.sz, A.elems.drop skip ++ ys, ver + 1, bif st1 then 1 else A.st⟩) (loc := some (blk, o' + skip * A.sz, e')) hS hA1 hst q6.os q6.tape q6.output (Nat.le_of_eq q6.size.symm)
          (fun b ob hb hob => q6.keepS (fun hbe => hb o' e' (hbe ▸ p1)) hob) hver1 hpos hfit (fun _ hh => by cases hh) (fun blk' o2 e2 hh => by
           cases hh
           refine ⟨.inr ⟨o', e', p1⟩, _, T.cast (by have hz := length_splice vs.toList (o' + skip * A.sz + (A.elems.length - skip) * A.sz) news (by rw [hnl, hvl]; omega); simpa using hz.symm), q6.at_, ?_, ?_, ?_⟩
           ·show o' + skip * A.sz + (A.elems.drop skip ++ ys).length * A.sz ≤ e'
            omega
           ·rw [List.size_toArray, length_splice _ _ _ (by rw [hnl, hvl]; omega), hvl]; exact p4
           ·show RepL w _ ((((splice vs.toList (o' + skip * A.sz + (A.elems.length - skip) * A.sz) news).toArray).toList.drop (o' + skip * A.sz)).take ((A.elems.drop skip ++ ys).length * A.sz)) (flat (A.elems.drop skip ++ ys))
            rw [List.toList_toArray, drop_splice_of_ge _ _ _ _ (by omega) (by rw [hvl]; omega), Nat.add_sub_cancel_left, flat_append]
            have e1 : (splice (vs.toList.drop (o' + skip * A.sz)) ((A.elems.length - skip) * A.sz) news).take ((A.elems.drop skip ++ ys).length * A.sz) = (vs.toList.drop (o' + skip * A.sz)).take ((A.elems.length - skip) * A.sz) ++ news := by
             unfold splice
             refine List.take_left' ?_
             rw [List.length_append, List.length_take, List.length_drop, hmul2, hnl, hvl]
             omega
            rw [e1]
            exact (row_drop hAf p5).append n3)
         refine ⟨_, _, _, hK, t1, t2, .tsl hkl fun B hB => ?_⟩
         have hBe := hset hB
         subst hBe
         refine ⟨Nat.le_refl _, fun _ => ⟨_, hE _, Nat.zero_le _, .inl ⟨cap0, ?_, ?_, ?_⟩⟩⟩
         ·simp [p6]
         ·simpa using q1
         ·simp only [Nat.zero_add]; rw [Nat.add_assoc, ← Nat.add_mul]; exact p7
        ·rw [hfin q3]
         have hlen : (A.elems.drop skip ++ ys).length = A.elems.length - skip + ys.length := by simp
         obtain ⟨t1, t2⟩ := sim_rowset (A' := ⟨A.sz, A.elems.drop skip ++ ys, ver + 1, bif st1 then 1 else A.st⟩) (loc := some (w.heap.size, 0, cap * A.sz)) hS hA1 hst q5.os q5.tape q5.output q5.size
          (fun b ob _ hob => q5.keepS hob) hver1 hpos hfit (fun _ hh => by cases hh) (fun blk' o2 e2 hh => by
           cases hh
           refine ⟨.inl (Nat.le_refl _), _, .zero _ _, q6, ?_, ?_, hnew o3 hxl⟩
           ·show 0 + (A.elems.drop skip ++ ys).length * A.sz ≤ cap * A.sz
            rw [Nat.zero_add, hlen]
            exact Nat.mul_le_mul_right _ q4
           ·rw [List.size_toArray, q7]; exact Nat.le_refl _)
         refine ⟨_, _, _, hK, t1, t2, .tsl hkl fun B hB => ?_⟩
         have hBe := hset hB
         subst hBe
         refine ⟨Nat.le_refl _, fun _ => ⟨_, hE _, Nat.zero_le _, .inl ⟨cap, ?_, ?_, ?_⟩⟩⟩
         ·simp
         ·simpa using q4
         ·simp
       ·exact h.elim
      ·exact h.elim
    ·cases hu
   ·cases hu
  ·cases hu
 ·exact h.elim
theorem Outc.frz {r : Result Next} (h : Outc C X w M E (fun v M' => ∃ d, datum M' v = some d ∧ K (.d d) (M'.frz [v])) KP r) : Outc C X w M E K KP r := by
 cases r with
 | ok n w' =>
  cases n with
  | value v =>
   obtain ⟨pv, M', E', ⟨d, hd, hK⟩, h1, h2, h3⟩ := h
   exact ⟨_, _, E', hK, sim_frz h1 [pv], h2.trans (from_frz [pv] w'), .d (datum_frz (ps := [pv]) h1 h3 hd (by simp))⟩
  | skip =>
   obtain ⟨M', E', ⟨d, hd, hK⟩, _⟩ := h
   simp [datum] at hd
  | enter f a =>
   obtain ⟨e, ps, hsc, hr⟩ := h
   refine ⟨e, ps, fun X' w2 E2 vals hS hA => (hsc X' w2 E2 vals hS hA).mono fun en w3 hf => ?_, hr⟩
   cases en with
   | returned v =>
    obtain ⟨pv, M', E', ⟨d, hd, hK⟩, h1, h2, h3⟩ := hf
    exact ⟨_, _, E', hK, sim_frz h1 [pv], h2.trans (from_frz [pv] w3), .d (datum_frz (ps := [pv]) h1 h3 hd (by simp))⟩
   | panicked c => exact hf
   | outgrown => exact hf
  | round l f t a b =>
   obtain ⟨e, hr⟩ := h
   refine ⟨e, hr.mono fun en w3 hf => ?_⟩
   cases en with
   | returned v =>
    obtain ⟨pv, M', E', ⟨d, hd, hK⟩, h1, h2, h3⟩ := hf
    exact ⟨_, _, E', hK, sim_frz h1 [pv], h2.trans (from_frz [pv] w3), .d (datum_frz (ps := [pv]) h1 h3 hd (by simp))⟩
   | panicked c => exact hf
   | outgrown => exact hf
  | _ => exact h.elim
 | halt x w' =>
  cases x with
  | panic u => exact h
  | _ => exact h.elim
theorem case_appF {ρ : Operand → Value} {o : Oper} {sz : Nat} {argTypes : Array TypeId} {as : Array Operand} (ho : o.op = .call { callee := .builtin .append, args := as, argTypes }) {args : List PV} (hS : Sim C X w M E) (hA : RepP w (away X M E) M E ((opsOf o.op).map ρ) args)
  (hok : okKind C.P (.call { callee := .builtin .append, args := as, argTypes }) (.appF sz) = true) {base : Nat} (h : runOp C base (.appF sz) args M K KP) : Outc C X w M E K KP ((execOp ρ o).run C.P w) := by
 have hok' : okKind C.P (.call { callee := .builtin .append, args := as, argTypes }) (.app sz false) = true := hok
 have h' : runOp C base (.app sz false) args M (fun v M' => ∃ d, datum M' v = some d ∧ K (.d d) (M'.frz [v])) KP := h
 exact Outc.frz (case_app ho hS hA hok' h')
end
end Go.Am
namespace Go.Am
theorem flat_rep1 {w w' : World} {O O' : Nat → Prop} : ∀ {cs : List DV} {vs : List Value}, (cs.all fun | .int _ _ => true | .bool _ => true | .str _ => true | _ => false) = true → RepL w O vs cs → RepL w' O' vs cs := by
 intro cs
 induction cs with
 | nil => intro vs _ h; cases h; exact .nil
 | cons c cs ih =>
  intro vs h hr
  cases hr with
  | cons h1 t =>
   simp only [List.all_cons, Bool.and_eq_true] at h
   refine .cons ?_ (ih h.2 t)
   have h0 := h.1
   cases h1 <;> first | exact .int _ _ | exact .bool _ | exact .str _ | (simp at h0)
theorem flat_rep2 {w w' : World} {O O' : Nat → Prop} : ∀ {cs : List DV} {vs : List Value}, (cs.all fun | .int _ _ => true | .bool _ => true | .str _ => true | .agg cs => (cs.all fun | .int _ _ => true | .bool _ => true | .str _ => true | _ => false) | _ => false) = true →
  RepL w O vs cs → RepL w' O' vs cs := by
 intro cs
 induction cs with
 | nil => intro vs _ h; cases h; exact .nil
 | cons c cs ih =>
  intro vs h hr
  cases hr with
  | cons h1 t =>
   simp only [List.all_cons, Bool.and_eq_true] at h
   refine .cons ?_ (ih h.2 t)
   have h0 := h.1
   cases h1 <;> first | exact .int _ _ | exact .bool _ | exact .str _ | (rename_i hh; exact .agg (flat_rep1 h0 hh)) | (simp at h0)
theorem flat_rep {w w' : World} {O O' : Nat → Prop} {v : Value} {x : DV} (h : isFlat x = true) (hr : RepD w O v x) : RepD w' O' v x := by
 cases hr with
 | int k n => exact .int _ _
 | bool b => exact .bool _
 | str s => exact .str _
 | nilPtr => exact .nilPtr
 | nilIface => exact .nilIface
 | nilFunc => exact .nilFunc
 | agg hh => exact .agg (flat_rep1 h hh)
 | tup hh => exact .tup (flat_rep2 h hh)
 | _ => simp [isFlat] at h
section
variable {C : Ctx} {X : Nat → Prop} {w w' : World} {M : Mem} {E E' : Emb} {K : PV → Mem → Prop} {KP : DV → Mem → Prop} {O : Nat → Prop}
theorem run_callFunc {P : Program} {f : FuncId} {args : Array Value} (h : callable P f = true) (w : World) : (callFunc f args).run P w = .ok (.enter f args) w := by
 unfold callable at h
 split at h
 ·rename_i fn hfn
  simp only [Bool.and_eq_true, Bool.not_eq_true'] at h
  obtain ⟨h1, h2⟩ := h
  have h3 : fn.body.isNone = false := by cases hb : fn.body <;> simp_all
  simp only [callFunc, Sem.run_bind, run_program, Result.andThen_ok, hfn, h2, h3, Bool.false_eq_true, if_false, Sem.run_pure]
 ·cases h
theorem case_call {ρ : Operand → Value} {o : Oper} {f : FuncId} {argTypes : Array TypeId} {as : Array Operand} (ho : o.op = .call { callee := .value (.func f), args := as, argTypes }) (hρ : ρ (.func f) = .func (.func f) #[] #[])
  {args : List PV} (hA : RepP w (away X M E) M E ((opsOf o.op).map ρ) args) (hok : callable C.P f = true) (h : SC C f args M K KP) : Outc C X w M E K KP ((execOp ρ o).run C.P w) := by
 simp only [ho, opsOf] at hA
 have hrun : (execOp ρ o).run C.P w = .ok (.enter f (as.map ρ)) w := by
  simp [execOp, ho, resolve, hρ, Deferred.ofValue, invoke, run_callFunc hok]
 rw [hrun]
 exact ⟨rfl, args, h, by simpa using hA⟩
theorem case_callV {ρ : Operand → Value} {o : Oper} {t : Tmp} {argTypes : Array TypeId} {as : Array Operand} (ho : o.op = .call { callee := .value (.tmp t), args := as, argTypes }) (hS : Sim C X w M E)
  {args : List PV} (hA : RepP w (away X M E) M E ((opsOf o.op).map ρ) args) {base : Nat} (h : runOp C base .callV args M K KP) : Outc C X w M E K KP ((execOp ρ o).run C.P w) := by
 simp only [ho, opsOf, List.map_cons] at hA
 simp only [runOp] at h
 have key : ∀ {f : FuncId} {F G : Array Value}, ρ (.tmp t) = .func (.func f) F G → callable C.P f = true → (execOp ρ o).run C.P w = .ok (.enter f (F ++ as.map ρ ++ G)) w := by
  intro f F G he hok
  simp [execOp, ho, resolve, he, Deferred.ofValue, invoke, run_callFunc hok]
 split at h
 ·rename_i f fs cs ps
  obtain ⟨hok, h⟩ := h
  cases hA with
  | cons h1 h2 =>
   have hd := h1.toD
   generalize hv : ρ (.tmp t) = v at hd
   cases hd with
   | func hf hc =>
    rw [key hv hok]
    refine ⟨rfl, _, h, ?_⟩
    have := ((RepP.ofD (M := M) (E := E) hf).append h2).append (RepP.ofD (M := M) (E := E) hc)
    simpa using this
 ·rename_i f fs cs ps
  obtain ⟨hok, h⟩ := h
  cases hA with
  | cons h1 h2 =>
   generalize hv : ρ (.tmp t) = v at h1
   cases h1 with
   | func hf hc =>
    rw [key hv hok]
    refine ⟨rfl, _, h, ?_⟩
    have := (hf.append h2).append hc
    simpa using this
 ·rename_i b ps
  cases hA with
  | cons h1 h2 =>
   generalize hv : ρ (.tmp t) = v at h1
   cases h1 with
   | yref hl hb hob =>
    rename_i blk cs
    obtain ⟨fn, tmps, a, body, g1, g2⟩ := h X w E _ blk hS h2 hb
    have hrun : (execOp ρ o).run C.P w = .ok (.round blk fn tmps a body) w := by
     rw [show (as.toList.map ρ).toArray = as.map ρ by rw [← Array.toList_map]] at g1
     simp [execOp, ho, resolve, hv, Deferred.ofValue, invoke]
     exact g1
    rw [hrun]
    exact ⟨rfl, g2⟩
 ·exact h.elim
theorem run_equalIn_slice_nil {P : Program} {t e : TypeId} {a : Option Addr} {n cap : Nat} (ht : P.underlying t = some (.slice e)) (w : World) (d : Nat) : (Op.equalIn (d + 1) t (.slice a n cap) (.slice none 0 0)).run P w = .ok a.isNone w := by
 cases a <;> simp only [Op.equalIn, Sem.run_bind, run_underlying ht, Result.andThen_ok, Sem.run_pure, Option.isNone_none, Option.isNone_some]
theorem run_equal_slice_nil {P : Program} {t e : TypeId} {a : Option Addr} {n cap : Nat} (ht : P.underlying t = some (.slice e)) (w : World) : (Op.equal t (.slice a n cap) (.slice none 0 0)).run P w = .ok a.isNone w := run_equalIn_slice_nil ht w 9999
theorem run_eqGuard_slice {P : Program} {op : BinOp} {t : TypeId} {x y : Operand} {a : Option Addr} {n cap : Nat} {v : Value} (w : World) : (eqGuard op t x y (.slice a n cap) v).run P w = .ok () w := by
 unfold eqGuard
 simp <;> split <;> simp
theorem case_isNil {ρ : Operand → Value} {o : Oper} {op : BinOp} {neq : Bool} {t u : TypeId} {x y : Operand} (ho : o.op = .binOp op t x y u) (hρ : ∀ v, ρ (.const v) = v) {args : List PV} (hS : Sim C X w M E) (hA : RepP w (away X M E) M E ((opsOf o.op).map ρ) args)
  (hok : okKind C.P (.binOp op t x y u) (.isNil neq) = true) {base : Nat} (h : runOp C base (.isNil neq) args M K KP) : Outc C X w M E K KP ((execOp ρ o).run C.P w) := by
 simp only [okKind, Bool.and_eq_true] at hok
 obtain ⟨⟨hop, hty⟩, hy⟩ := hok
 split at hty
 ·rename_i e hun
  split at hy
  ·simp only [ho, opsOf, List.map_cons, List.map_nil, hρ] at hA
   simp only [runOp] at h
   split at h
   ·rename_i ex xs
    obtain ⟨v, u', he, hr, hr2⟩ := repP_two hA
    simp only [List.cons.injEq, and_true] at he
    obtain ⟨rfl, _⟩ := he
    obtain ⟨a, cap, hv, _, _, hpl⟩ := hr.toD.slice_full
    have heq := run_equal_slice_nil (P := C.P) (a := a) (n := xs.length) (cap := cap) hun w
    have hg := run_eqGuard_slice (P := C.P) (op := op) (t := t) (x := x) (y := .const (.slice none 0 0)) (a := a) (n := xs.length) (cap := cap) (v := .slice none 0 0) w
    have hrun : (execOp ρ o).run C.P w = .ok (.value (.bool (a.isNone != neq))) w := by
     cases op <;> simp only [Bool.not_eq_true', Bool.false_eq_true] at hop
     ·subst hop
      simp only [execOp, ho, Sem.run_bind, hρ, hv, hg, Result.andThen_ok, binOp, heq, Sem.run_pure]
      simp
     ·subst hop
      simp only [execOp, ho, Sem.run_bind, hρ, hv, hg, Result.andThen_ok, binOp, heq, Sem.run_pure]
      simp
    rw [hrun]
    by_cases hx : xs = []
    ·exact .same hS (h.2 hx _) (.d (.bool _))
    ·have ha : a.isNone = false := by
      rcases hpl with hh | ⟨_, _, _, _, _, _, rfl, _⟩
      ·exact absurd hh hx
      ·rfl
     rw [ha]
     exact .same hS (by simpa using h.1 hx) (.d (.bool _))
   ·exact h.elim
  ·cases hy
 ·cases hty
theorem From.laterOf {M' : Mem} (h : From w noMem ⟨[], []⟩ w' M' E') : Later w w' :=
 ⟨h.os, h.tape, h.output, h.size, fun b hb => by
  obtain ⟨o, ho⟩ : ∃ o, w.heap[b]? = some o := ⟨_, Array.getElem?_eq_getElem hb⟩
  rw [ho, h.keep b o (by rintro (⟨i, cs, h1, _⟩ | ⟨k, A, o, e, h1, _⟩) <;> simp [noMem] at h1) ho]⟩
theorem owned_join {as : List Arr} {b : Nat} (hl : E.ar.length = M.arrs.length) :
  owned { M with arrs := M.arrs ++ as.map some } { E with ar := E.ar ++ E'.ar } b ↔ (owned M E b ∨ owned (rowsOf as) E' b) := by
 constructor
 ·rintro (hh | ⟨k, A, o, e, h1, h2, h3⟩)
  ·exact .inl (.inl hh)
  ·by_cases hk : k < M.arrs.length
   ·simp only [List.getElem?_append_left hk] at h1
    simp only [List.getElem?_append_left (hl ▸ hk)] at h3
    exact .inl (.inr ⟨k, A, o, e, h1, h2, h3⟩)
   ·simp only [List.getElem?_append_right (Nat.le_of_not_lt hk)] at h1
    simp only [List.getElem?_append_right (hl ▸ Nat.le_of_not_lt hk)] at h3
    exact .inr (.inr ⟨k - M.arrs.length, A, o, e, h1, h2, hl ▸ h3⟩)
 ·rintro ((hh | ⟨k, A, o, e, h1, h2, h3⟩) | (⟨i, cs, h1, _⟩ | ⟨k, A, o, e, h1, h2, h3⟩))
  ·exact .inl hh
  ·have hk : k < M.arrs.length := (List.getElem?_eq_some_iff.1 h1).1
   exact .inr ⟨k, A, o, e, by simp only [List.getElem?_append_left hk]; exact h1, h2, by simp only [List.getElem?_append_left (hl ▸ hk)]; exact h3⟩
  ·simp [rowsOf] at h1
  ·refine .inr ⟨M.arrs.length + k, A, o, e, ?_, h2, ?_⟩
   ·simp only [List.getElem?_append_right (Nat.le_add_right _ _), Nat.add_sub_cancel_left]; exact h1
   ·have : E.ar.length ≤ M.arrs.length + k := by omega
    simp only [List.getElem?_append_right this, hl, Nat.add_sub_cancel_left]; exact h3
theorem sim_join {as : List Arr} (h : Sim C X w M E) (h' : Sim C (away X M E) w' (rowsOf as) E') (hf : From w noMem ⟨[], []⟩ w' (rowsOf as) E') (hst : ∀ A ∈ as, A.st ≠ 2) :
  Sim C X w' { M with arrs := M.arrs ++ as.map some } { E with ar := E.ar ++ E'.ar } ∧ From w M E w' { M with arrs := M.arrs ++ as.map some } { E with ar := E.ar ++ E'.ar } ∧
  (∀ b, away X { M with arrs := M.arrs ++ as.map some } { E with ar := E.ar ++ E'.ar } b ↔ away (away X M E) (rowsOf as) E' b) := by
 have hl := h.lenA
 have hL := hf.laterOf
 have hiff : ∀ b, away X { M with arrs := M.arrs ++ as.map some } { E with ar := E.ar ++ E'.ar } b ↔ away (away X M E) (rowsOf as) E' b := by
  intro b
  simp only [away, owned_join hl, or_assoc]
 have hnone : ∀ b, ¬ owned noMem ⟨[], []⟩ b := by
  rintro b (⟨i, cs, h1, _⟩ | ⟨k, A, o, e, h1, _⟩) <;> simp [noMem] at h1
 have hnew : ∀ b, owned (rowsOf as) E' b → w.heap.size ≤ b := fun b hb => (hf.own b hb).resolve_left (hnone b)
 have hF : From w M E w' { M with arrs := M.arrs ++ as.map some } { E with ar := E.ar ++ E'.ar } :=
  {os := hf.os, tape := hf.tape, output := hf.output, size := hf.size
   keep := fun b o _ ho => hf.keep b o (hnone b) ho
   own := fun b hb => ((owned_join hl).1 hb).imp id (hnew b)
   lenB := Nat.le_refl _
   bx := fun b cs hb => ⟨rfl, cs, hb, rfl⟩
   lenA := by simp
   ar := fun k A' hk hA => by
    simp only [List.getElem?_append_left hk] at hA
    exact ⟨A', hA, Nat.le_refl _, fun _ => ⟨by simp only [List.getElem?_append_left (hl ▸ hk)], rfl, rfl, fun _ => rfl⟩⟩ }
 have hsplit : ∀ (k : Nat) (A : Arr), (M.arrs ++ as.map some)[k]? = some (some A) → (k < M.arrs.length ∧ M.arrs[k]? = some (some A) ∧ (E.ar ++ E'.ar)[k]? = E.ar[k]?) ∨
   (M.arrs.length ≤ k ∧ (rowsOf as).arrs[k - M.arrs.length]? = some (some A) ∧ A ∈ as ∧ (E.ar ++ E'.ar)[k]? = E'.ar[k - M.arrs.length]?) := by
  intro k A hA
  by_cases hk : k < M.arrs.length
  ·rw [List.getElem?_append_left hk] at hA
   exact .inl ⟨hk, hA, List.getElem?_append_left (hl ▸ hk)⟩
  ·have hk' := Nat.le_of_not_lt hk
   rw [List.getElem?_append_right hk'] at hA
   refine .inr ⟨hk', hA, ?_, ?_⟩
   ·have := List.mem_of_getElem? hA
    simpa using this
   ·rw [List.getElem?_append_right (hl ▸ hk'), hl]
 have hnewA : ∀ (k : Nat) (A : Arr) (blk o e : Nat), (rowsOf as).arrs[k]? = some (some A) → A ∈ as → E'.ar[k]? = some (some (blk, o, e)) → w.heap.size ≤ blk := fun k A blk o e h1 h2 h3 =>
  hnew blk (.inr ⟨k, A, o, e, h1, hst A h2, h3⟩)
 refine ⟨?_, hF, hiff⟩
 exact
  {glob := h'.glob
   lowX := h.lowX
   xlt := fun b hb => Nat.lt_of_lt_of_le (h.xlt b hb) hf.size
   lenB := h.lenB
   lenA := by
    have := h'.lenA
    simp [rowsOf] at this
    simp [hl, this]
   box := fun b cs hb => by
    obtain ⟨blk, h1, h2, h3⟩ := h.box b cs hb
    exact ⟨blk, h1, h2, h3.from hF fun _ ho => hL.keepS ho⟩
   arr := fun k A hA => by
    rcases hsplit k A hA with ⟨hk, hA', he⟩ | ⟨hk, hA', hm, he⟩
    ·obtain ⟨h1, h2, h3, h4⟩ := h.arr k A hA'
     refine ⟨h1, h2, fun hs => by rw [he]; exact h3 hs, fun blk o e heq => ?_⟩
     simp only [he] at heq
     obtain ⟨q1, vs, T, q2, q3, q4, q5⟩ := h4 blk o e heq
     exact ⟨q1, vs, T, hL.keepS q2, q3, q4, q5.from hF⟩
    ·obtain ⟨h1, h2, h3, h4⟩ := h'.arr _ A hA'
     refine ⟨h1, h2, fun hs => by rw [he]; exact h3 hs, fun blk o e heq => ?_⟩
     simp only [he] at heq
     obtain ⟨q1, vs, T, q2, q3, q4, q5⟩ := h4 blk o e heq
     exact ⟨fun hx => q1 (.inl hx), vs, T, q2, q3, q4, q5.weaken fun b hb => (hiff b).1 hb⟩
   bb := h.bb
   aa := fun k k' A A' blk o e o' e' h1 h2 h3 h4 => by
    rcases hsplit k A h1 with ⟨hk, hA, he⟩ | ⟨hk, hA, hm, he⟩ <;> rcases hsplit k' A' h2 with ⟨hk', hA', he'⟩ | ⟨hk', hA', hm', he'⟩
    ·simp only [he] at h3; simp only [he'] at h4
     exact h.aa k k' A A' blk o e o' e' hA hA' h3 h4
    ·simp only [he] at h3; simp only [he'] at h4
     exact absurd (h.arr_lt hA h3) (by have := hnewA _ A' blk o' e' hA' hm' h4; omega)
    ·simp only [he] at h3; simp only [he'] at h4
     exact absurd (h.arr_lt hA' h4) (by have := hnewA _ A blk o e hA hm h3; omega)
    ·simp only [he] at h3; simp only [he'] at h4
     have := h'.aa _ _ A A' blk o e o' e' hA hA' h3 h4
     omega
   ba := fun b k cs A blk o e h1 h2 h3 h4 => by
    rcases hsplit k A h2 with ⟨hk, hA, he⟩ | ⟨hk, hA, hm, he⟩
    ·simp only [he] at h4; exact h.ba b k cs A blk o e h1 hA h3 h4
    ·simp only [he] at h4
     exact absurd (h.box_lt h1 h3) (by have := hnewA _ A blk o e hA hm h4; omega) }
theorem rep_shift0 {O O' : Nat → Prop} {as : List Arr} (hl : E.ar.length = M.arrs.length) (hO : ∀ b, O' b → O b) {v : Value} {p : PV} (h : Rep w O (rowsOf as) E' v p) :
  Rep w O' { M with arrs := M.arrs ++ as.map some } { E with ar := E.ar ++ E'.ar } v (shift0 M.arrs.length p) := by
 cases h with
 | d h => exact .d (h.weaken hO)
 | tsl hlt hh =>
  rename_i k ver skip len cap a
  refine .tsl (by simp [rowsOf] at hlt ⊢; omega) fun A hA => ?_
  have hA' : (rowsOf as).arrs[k]? = some (some A) := by
   rw [List.getElem?_append_right (Nat.le_add_right _ _), Nat.add_sub_cancel_left] at hA
   exact hA
  obtain ⟨g1, g2⟩ := hh A hA'
  refine ⟨g1, fun hv => ?_⟩
  obtain ⟨loc, g3, g4, g5⟩ := g2 hv
  refine ⟨loc, ?_, g4, ?_⟩
  ·have : E.ar.length ≤ M.arrs.length + k := by omega
   simp only [List.getElem?_append_right this, hl, Nat.add_sub_cancel_left]; exact g3
  ·cases loc with
   | none => exact RepD.weaken hO g5
   | some q => exact g5
 | _ => exact .dead
theorem rep_shift0L {O O' : Nat → Prop} {as : List Arr} (hl : E.ar.length = M.arrs.length) (hO : ∀ b, O' b → O b) : ∀ {vs : List Value} {ps : List PV}, RepP w O (rowsOf as) E' vs ps →
  RepP w O' { M with arrs := M.arrs ++ as.map some } { E with ar := E.ar ++ E'.ar } vs (ps.map (shift0 M.arrs.length))
 | _, _, .nil => .nil
 | _, _, .cons h t => .cons (rep_shift0 hl hO h) (rep_shift0L hl hO t)
theorem rep_shift1 {O O' : Nat → Prop} {as : List Arr} (hl : E.ar.length = M.arrs.length) (hO : ∀ b, O' b → O b) {v : Value} {p : PV} (h : Rep w O (rowsOf as) E' v p) :
  Rep w O' { M with arrs := M.arrs ++ as.map some } { E with ar := E.ar ++ E'.ar } v (shift1 M.arrs.length p) := by
 cases p with
 | agg cs => cases h with | agg hh => exact .agg (rep_shift0L hl hO hh)
 | _ => exact rep_shift0 hl hO h
theorem rep_shift1L {O O' : Nat → Prop} {as : List Arr} (hl : E.ar.length = M.arrs.length) (hO : ∀ b, O' b → O b) : ∀ {vs : List Value} {ps : List PV}, RepP w O (rowsOf as) E' vs ps →
  RepP w O' { M with arrs := M.arrs ++ as.map some } { E with ar := E.ar ++ E'.ar } vs (ps.map (shift1 M.arrs.length))
 | _, _, .nil => .nil
 | _, _, .cons h t => .cons (rep_shift1 hl hO h) (rep_shift1L hl hO t)
theorem rep_shift {O O' : Nat → Prop} {as : List Arr} (hl : E.ar.length = M.arrs.length) (hO : ∀ b, O' b → O b) {v : Value} {p : PV} (h : Rep w O (rowsOf as) E' v p) :
  Rep w O' { M with arrs := M.arrs ++ as.map some } { E with ar := E.ar ++ E'.ar } v (p.shift M.arrs.length) := by
 cases p with
 | agg cs => cases h with | agg hh => exact .agg (rep_shift0L hl hO hh)
 | tup cs => cases h with | tup hh => exact .tup (rep_shift1L hl hO hh)
 | _ => exact rep_shift0 hl hO h
theorem frz_len (args : List PV) : (M.frz args).arrs.length = M.arrs.length := by simp [Mem.frz, frzA_length]
theorem sc_of_runPure {f : FuncId} {args : List PV} (h : runPure C f args M K) : SC C f args M K KP := by
 obtain ⟨ds, hds, r, as, hp, hK⟩ := h
 intro X w E vals hS hA
 have hS1 := sim_frz hS args
 have hd := (datumL_frz hS hA hds (fun q hq => hq)).strip
 refine (hp (away X (M.frz args) E) w vals hS.glob (fun b hb => .inl (hS.lowX b hb)) (fun b hb => hS1.away_lt hb) hd).mono fun e w' he => ?_
 obtain ⟨v, E', rfl, hS', hF, hr⟩ := he
 rcases hK with ⟨x, rfl, hx, rfl, hK⟩ | ⟨hst, hK⟩
 ·exact ⟨_, M, E, hK, hS.later hF.laterOf, hF.laterOf.from M E, .d (flat_rep hx hr.toD)⟩
 ·obtain ⟨j1, j2, j3⟩ := sim_join hS1 hS' hF hst
  refine ⟨_, _, _, hK, j1, (from_frz args w).trans j2, ?_⟩
  have := rep_shift (M := M.frz args) (E := E) hS1.lenA (fun b hb => (j3 b).1 hb) hr
  rw [frz_len] at this
  exact this
theorem runPure_of_D {f : FuncId} {args : List PV} (h : runPureD C f args M K) : runPure C f args M K := by
 obtain ⟨ds, h1, x, h2, h3⟩ := h
 have ha := allD_eq h1
 subst ha
 have e1 : datumL M (ds.map .d) = some ds := by
  clear h1 h2
  induction ds with
  | nil => rfl
  | cons d ds ih => simp only [List.map_cons, datumL, datum, ih]
 have e2 : M.frz (ds.map .d) = M := by
  have h1 : (ds.map PV.d).flatMap (refsB M) = [] := by
   clear h1 h2 e1; induction ds with
   | nil => rfl
   | cons d ds ih => simp [refsB]
  have h2 : (ds.map PV.d).flatMap (refsA M) = [] := by
   clear h1 h2 e1; induction ds with
   | nil => rfl
   | cons d ds ih => simp [refsA]
  simp only [Mem.frz, h1, h2, frzA, List.foldl_nil, List.nil_append]
 refine ⟨ds, e1, _, _, h2, .inr ⟨(fun A hA => by cases hA), ?_⟩⟩
 rw [e2]
 simpa [PV.shift, shift0] using h3
theorem runPure_of_F {f : FuncId} {args : List PV} (h : runPureF C f args M K) : runPure C f args M K := by
 obtain ⟨ds, h1, x, h2, h3, h4⟩ := h
 exact ⟨ds, h1, _, _, h2, .inl ⟨x, rfl, h3, rfl, h4⟩⟩
end
end Go.Am
