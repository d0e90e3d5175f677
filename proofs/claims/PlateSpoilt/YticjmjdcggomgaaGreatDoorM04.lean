/-
  Part 4 of the proof of a law of plates: an abstract machine over the model, contracts of functions, plain laws.
  Conditions: none.
-/
import Derived.Test.YticjmjdcggomgaaGreatDoorM03
set_option linter.all false
namespace Go.Am
section
variable {C : Ctx} {X : Nat → Prop} {w : World} {M : Mem} {E : Emb} {K : PV → Mem → Prop} {KP : DV → Mem → Prop} {O : Nat → Prop}
theorem load_vals {P : Program} {t : TypeId} {agg : Bool} {n blk off : Nat} {vs : Array Value} {T : TypeId} {fz : Nat × Nat} {cs : List PV} (h : okAgg P t agg n = true) (hb : w.heap[blk]? = some (.cells vs T fz))
  (hr : RepP w O M E vs.toList cs) (hn : off + n ≤ cs.length) :
  ∃ v, (Instr.loadAt t (.pointer (some ⟨blk, off, none⟩))).run P w = .ok v w ∧ Rep w O M E v (ld agg n off cs) := by
 have hl := hr.length
 simp only [Array.length_toList] at hl
 have h3 := (okAgg_run h w).2.2
 refine ⟨_, run_loadAt h hb (by omega), ?_⟩
 cases agg with
 | true => exact Rep.mkAgg ((hr.drop off).take n)
 | false =>
  have hn1 := h3 rfl
  have hlt : off < cs.length := by omega
  obtain ⟨v, hv, hrd⟩ := hr.get' off cs[off] (List.getElem?_eq_getElem hlt)
  simp only [cond_false, ld]
  rw [getD_eq hlt, List.getD, hv]
  exact hrd
theorem elem_cells {A : Arr} {o e i : Nat} {vs : Array Value} (hfit : ∀ x ∈ A.elems, x.fits A.sz = true) (hi : i < A.elems.length)
  (h : RepL w O ((vs.toList.drop o).take (A.elems.length * A.sz)) (flat A.elems)) (off n : Nat) (hn : off + n ≤ A.elems[i].cells.length) (_he : o + A.elems.length * A.sz ≤ e) (_hv : e ≤ vs.size) :
  RepL w O ((vs.toList.drop (o + i * A.sz + off)).take n) ((A.elems[i].cells.drop off).take n) := by
 have hlen : ∀ x ∈ A.elems, x.cells.length = A.sz := fun x hx => DV.fits_len (hfit x hx)
 have hsz := hlen _ (List.getElem_mem hi)
 have h1 := ((((h.drop (i * A.sz)).take A.sz).drop off).take n)
 rw [flat_get hlen hi] at h1
 have hin : i * A.sz + A.sz ≤ A.elems.length * A.sz := by rw [← Nat.succ_mul]; exact Nat.mul_le_mul_right _ hi
 have e1 : (((((vs.toList.drop o).take (A.elems.length * A.sz)).drop (i * A.sz)).take A.sz).drop off).take n = (vs.toList.drop (o + i * A.sz + off)).take n := by
  rw [List.drop_take, List.drop_drop, List.take_take, List.drop_take, List.drop_drop, List.take_take, ← Nat.add_assoc]
  congr 1
  omega
 rw [e1] at h1
 exact h1
theorem ldD_eq (agg : Bool) (n off : Nat) (cs : List DV) (hn : 0 < n) (hl : off + n ≤ cs.length) (h1 : agg = false → n = 1) : ldD agg n off cs = .d (bif agg then .agg ((cs.drop off).take n) else ((cs.drop off).take n).getD 0 default) := by
 cases agg with
 | true => rfl
 | false =>
  have := h1 rfl
  subst this
  simp only [ldD, cond_false]
  have hlt : off < cs.length := by omega
  simp [List.getD]
theorem runLoad_sound {t : TypeId} {agg : Bool} {n : Nat} {x : PV} {v : Value} (hS : Sim C X w M E) (hr : Rep w (away X M E) M E v x) (hok : okAgg C.P t agg n = true) {K : PV → Prop} (h : runLoad agg n x M K) :
  ∃ u pv, (Instr.loadAt t v).run C.P w = .ok u w ∧ K pv ∧ Rep w (away X M E) M E u pv := by
 have hpos := okAgg_pos hok
 have hone := (okAgg_run hok w).2.2
 have data : ∀ {v : Value} {cs : List DV}, RepD w (away X M E) v (.cptr cs) → ∀ off, off = 0 → n ≤ cs.length →
   ∃ u, (Instr.loadAt t v).run C.P w = .ok u w ∧ RepD w (away X M E) u (bif agg then .agg (cs.take n) else cs.getD 0 default) := by
  intro v cs hd off _ hn
  cases hd with
  | cptr hb ho hh =>
   have hh' := hh.take n
   rw [List.take_take, Nat.min_eq_left hn] at hh'
   obtain ⟨u, h1, h2⟩ := load_data hok hb hh' (by simp; omega)
   refine ⟨u, h1, ?_⟩
   cases agg with
   | true => exact h2
   | false =>
    have := hone rfl
    subst this
    simp only [cond_false] at h2 ⊢
    cases cs with
    | nil => simp at hn
    | cons c cs => simpa using h2
 cases x with
 | ptr b off =>
  simp only [runLoad] at h
  split at h
  ·rename_i cs hcs
   obtain ⟨hn, hK⟩ := h
   cases hr with
   | ptr hl he hno =>
    rw [box_eq hcs] at hl; cases hl
    obtain ⟨blk, vs, T, h1, h2, h3, h4⟩ := hS.cells (box_eq hcs) hno
    rw [he] at h1; cases h1
    obtain ⟨u, g1, g2⟩ := load_vals hok h3 h4 hn
    exact ⟨u, _, g1, hK, g2⟩
  ·exact h.elim
 | d x =>
  cases x with
  | cptr cs =>
   simp only [runLoad] at h
   obtain ⟨hn, hK⟩ := h
   obtain ⟨u, g1, g2⟩ := data hr.toD 0 rfl hn
   refine ⟨u, _, g1, hK, ?_⟩
   cases agg <;> exact .d (by simpa using g2)
  | _ => simp [runLoad] at h
 | eptr k ver i off =>
  simp only [runLoad] at h
  split at h
  ·rename_i A hA
   obtain ⟨hn, hK⟩ := h
   obtain ⟨hA1, hv⟩ := row_eq hA
   cases hr with
   | eptr hlt hh =>
    obtain ⟨_, h2⟩ := hh A hA1
    obtain ⟨loc, h3, hi, h5⟩ := h2 hv
    obtain ⟨s1, s2, s3, s4⟩ := hS.arr k A hA1
    rw [getD_eq hi] at hn hK
    cases loc with
    | none =>
     simp only [List.getElem?_eq_getElem hi, Option.getD_some] at h5
     obtain ⟨u, g1, g2⟩ := data h5 0 rfl (by simp; omega)
     refine ⟨u, _, g1, hK, ?_⟩
     rw [ldD_eq agg n off _ hpos hn hone]
     refine .d ?_
     cases agg with
     | true => exact g2
     | false =>
      have := hone rfl
      subst this
      simp only [cond_false] at g2 ⊢
      have hlt' : off < A.elems[i].cells.length := by omega
      rw [List.drop_eq_getElem_cons hlt'] at g2 ⊢
      simpa using g2
    | some q =>
     obtain ⟨blk, o, e⟩ := q
     simp only at h5
     obtain ⟨hX, vs, T, g2, g3, g4, g5⟩ := s4 blk o e h3
     simp only [Value.pointer.injEq] at h5
     subst h5
     obtain ⟨u, q1, q2⟩ := load_data hok g2 (elem_cells s2 hi g5 off n hn g3 g4) (by simp; omega)
     refine ⟨u, _, q1, hK, ?_⟩
     rw [ldD_eq agg n off _ hpos hn hone]
     exact .d q2
  ·exact h.elim
 | _ => simp [runLoad] at h
theorem case_load {ρ : Operand → Value} {o : Oper} {t : TypeId} {x : Operand} {agg : Bool} {n : Nat} (ho : o.op = .load t x) {args : List PV} (hS : Sim C X w M E) (hA : RepP w (away X M E) M E ((opsOf o.op).map ρ) args)
  (hok : okAgg C.P t agg n = true) {base : Nat} (h : runOp C base (.load agg n) args M K KP) : Outc C X w M E K KP ((execOp ρ o).run C.P w) := by
 simp only [runOp] at h
 split at h
 ·rename_i p
  simp only [ho, opsOf, List.map_cons, List.map_nil] at hA
  obtain ⟨v, he, hr⟩ := repP_one hA
  simp only [List.cons.injEq, and_true] at he
  subst he
  obtain ⟨u, pv, h1, h2, h3⟩ := runLoad_sound hS hr hok h
  have hrun : (execOp ρ o).run C.P w = .ok (.value u) w := by simp [execOp, ho, h1]
  rw [hrun]
  exact .same hS h2 h3
 ·exact h.elim
theorem runLoadP_load {agg : Bool} {n : Nat} {x : PV} {K : PV → Prop} (h : runLoadP agg n x M K) : runLoad agg n x M K := by
 cases x with
 | d x => cases x <;> first | exact h | exact h.elim
 | ptr => exact h
 | _ => exact h.elim
theorem case_loadP {ρ : Operand → Value} {o : Oper} {t : TypeId} {x : Operand} {agg : Bool} {n : Nat} (ho : o.op = .load t x) {args : List PV} (hS : Sim C X w M E) (hA : RepP w (away X M E) M E ((opsOf o.op).map ρ) args)
  (hok : okAgg C.P t agg n = true) {base : Nat} (h : runOp C base (.loadP agg n) args M K KP) : Outc C X w M E K KP ((execOp ρ o).run C.P w) := by
 refine case_load (base := base) ho hS hA hok ?_
 simp only [runOp] at h ⊢
 split at h
 ·exact runLoadP_load h
 ·exact h.elim
theorem RepD.oneCell {v : Value} {x : DV} (h : RepD w O v x) (hx : x.one = true) : v.oneCell' = true := by
 cases h <;> first | rfl | (simp [DV.one] at hx)
theorem RepL.oneCell : ∀ {vs : List Value} {xs : List DV}, RepL w O vs xs → (∀ x ∈ xs, x.one = true) → ∀ v ∈ vs, v.oneCell' = true
 | _, _, .nil, _, v, hv => by simp at hv
 | _, _, .cons h t, hx, v, hv => by
  rcases List.mem_cons.1 hv with rfl | hv
  ·exact h.oneCell (hx _ (by simp))
  ·exact RepL.oneCell t (fun x hx' => hx x (by simp [hx'])) v hv
theorem Rep.oneCell {v : Value} {x : PV} (h : Rep w O M E v x) (hx : x.one = true) : v.oneCell' = true := by
 cases h with
 | d h => exact h.oneCell hx
 | ptr => rfl
 | eptr => rfl
 | tsl => rfl
 | psl => rfl
 | iref => rfl
 | func => rfl
 | mref => rfl
 | yref => rfl
 | _ => simp [PV.one] at hx
theorem RepP.oneCell : ∀ {vs : List Value} {xs : List PV}, RepP w O M E vs xs → (∀ x ∈ xs, x.one = true) → ∀ v ∈ vs, v.oneCell' = true
 | _, _, .nil, _, v, hv => by simp at hv
 | _, _, .cons h t, hx, v, hv => by
  rcases List.mem_cons.1 hv with rfl | hv
  ·exact h.oneCell (hx _ (by simp))
  ·exact RepP.oneCell t (fun x hx' => hx x (by simp [hx'])) v hv
theorem run_storeAt {P : Program} {t : TypeId} {i : TypeInfo} {blk off : Nat} {v : Value} {cur : Array Value} {T : TypeId} {mk : Nat × Nat} (hmk : mk.2 = 0 ∨ cur.size ≤ mk.1) (hi : P.info? t = some i) (hn : v.cells.size = i.size)
  (hb : w.heap[blk]? = some (.cells cur T mk)) (hl : off + v.cells.size ≤ cur.size) (h1 : ∀ u ∈ v.cells.toList, u.oneCell' = true) :
  (Instr.storeAt t (.pointer (some ⟨blk, off, none⟩)) v).run P w = .ok () (w.setRow blk (splice cur.toList off v.cells.toList).toArray) := by
 have hst := run_storeCells_atM P blk off T mk v.cells.toList 0 cur w hb hmk (by simpa using hl) h1
 simp only [Nat.add_zero] at hst
 simp only [Instr.storeAt, Instr.sureAddr, pure_bind, storeVar, Sem.run_bind, run_sizeOf hi, Result.andThen_ok, hn, ne_eq, not_true, if_false, hst, splice, Sem.run_ite]
theorem case_store {ρ : Operand → Value} {o : Oper} {t : TypeId} {a x : Operand} {n : Nat} (ho : o.op = .store t a x) {args : List PV} (hS : Sim C X w M E) (hA : RepP w (away X M E) M E ((opsOf o.op).map ρ) args)
  (hok : okKind C.P (.store t a x) (.store n) = true) {base : Nat} (h : runOp C base (.store n) args M K KP) : Outc C X w M E K KP ((execOp ρ o).run C.P w) := by
 simp only [okKind] at hok
 split at hok
 ·rename_i inf hinf
  simp only [beq_iff_eq] at hok
  simp only [runOp] at h
  split at h
  ·rename_i p q
   simp only [ho, opsOf, List.map_cons, List.map_nil] at hA
   obtain ⟨v, u, he, hr, hr2⟩ := repP_two hA
   simp only [List.cons.injEq, and_true] at he
   obtain ⟨rfl, rfl⟩ := he
   cases p with
   | ptr b off =>
    simp only [runStore] at h
    split at h
    ·rename_i cs hcs
     obtain ⟨hfz, hlen, hall, hbd, hK⟩ := h
     have hq : q ≠ .dead := by rintro rfl; simp [PV.cells, PV.one] at hall
     have hc := hr2.cells hq
     have hcl := hc.length
     generalize hv : ρ a = va at hr
     cases hr with
     | ptr hl he hno =>
      rw [box_eq hcs] at hl; cases hl
      obtain ⟨blk, vs, T, h1, h2, h3, h4⟩ := hS.cells (box_eq hcs) hno
      have hvl := h4.length
      simp only [Array.length_toList] at hcl hvl
      obtain rfl := Option.some.inj (h1.symm.trans he)
      have hrun := run_storeAt (P := C.P) (t := t) (v := ρ x) (.inl rfl) hinf (by omega) h3 (off := off) (by omega) (hc.oneCell (by simpa [List.all_eq_true] using hall))
      have hex : (execOp ρ o).run C.P w = .ok .skip (w.setRow blk (splice vs.toList off (ρ x).cells.toList).toArray) := by simp [execOp, ho, hv, hrun]
      rw [hex]
      obtain ⟨s1, s2⟩ := sim_store (off := off) hS (box_eq hcs) hfz he h3 hc (wrote_setRow w blk vs T _ h3)
      exact ⟨_, _, hK, s1, s2⟩
    ·exact h.elim
   | eptr k ver i off =>
    simp only [runStore] at h
    split at h
    ·rename_i A ds hrow hds
     obtain ⟨hst, hn0, hlen, hall, hbd, hK⟩ := h
     obtain ⟨hA1, hver⟩ := row_eq hrow
     have hq : q ≠ .dead := by rintro rfl; simp [PV.cells, allD] at hds
     have hc := (hr2.cells hq).allD hds
     have hcl := hc.length
     simp only [Array.length_toList] at hcl
     generalize hv : ρ a = va at hr
     cases hr with
     | eptr hlt hh =>
      obtain ⟨_, h2⟩ := hh A hA1
      obtain ⟨loc, h3, hi, h5⟩ := h2 hver
      obtain ⟨s1, s2, s3, s4⟩ := hS.arr k A hA1
      obtain ⟨q', hq'⟩ := s3 hst
      rw [h3] at hq'
      cases hq'
      obtain ⟨blk, o', e⟩ := q'
      simp only at h5
      obtain ⟨hX, vs, T, g2, g3, g4, g5⟩ := s4 blk o' e h3
      simp only [Value.pointer.injEq] at h5
      subst h5
      have hbd' := hbd
      rw [getD_eq hi] at hbd'
      have hfi : A.elems[i].cells.length = A.sz := DV.fits_len (s2 _ (List.getElem_mem hi))
      have hin : i * A.sz + A.sz ≤ A.elems.length * A.sz := by rw [← Nat.succ_mul]; exact Nat.mul_le_mul_right _ hi
      have hrun := run_storeAt (P := C.P) (t := t) (v := ρ x) T.ok hinf (by omega) g2 (off := o' + i * A.sz + off) (by omega) (hc.oneCell (by simpa [List.all_eq_true] using hall))
      have hex : (execOp ρ o).run C.P w = .ok .skip (w.setRow blk (splice vs.toList (o' + i * A.sz + off) (ρ x).cells.toList).toArray) := by simp [execOp, ho, hv, hrun]
      rw [hex]
      obtain ⟨t1, t2⟩ := sim_storeA hS hA1 hst h3 g2 hi (by rw [hlen]; exact hbd) (by rw [hlen]; exact hn0) hall hc (wrote_setRow w blk vs T.ty _ g2)
      exact ⟨_, _, hK, t1, t2⟩
    ·exact h.elim
   | _ => simp [runStore] at h
  ·exact h.elim
 ·cases hok
theorem case_nilck {ρ : Operand → Value} {o : Oper} {x : Operand} (ho : o.op = .nilCheck x) {args : List PV} (hS : Sim C X w M E) (hA : RepP w (away X M E) M E ((opsOf o.op).map ρ) args)
  {base : Nat} (h : runOp C base .nilck args M K KP) : Outc C X w M E K KP ((execOp ρ o).run C.P w) := by
 have key : ∀ a, ρ x = .pointer (some a) → (execOp ρ o).run C.P w = .ok (.value (ρ x)) w := by
  intro a ha; simp [execOp, ho, ha]
 simp only [ho, opsOf, List.map_cons, List.map_nil] at hA
 simp only [runOp] at h
 split at h
 ·obtain ⟨v, he, hr⟩ := repP_one hA
  simp only [List.cons.injEq, and_true] at he
  subst he
  generalize hv : ρ x = v at hr
  cases hr with
  | ptr hl hb hno =>
   rw [key _ hv, hv]
   exact .same hS h (.ptr hl hb hno)
 ·obtain ⟨v, he, hr⟩ := repP_one hA
  simp only [List.cons.injEq, and_true] at he
  subst he
  have hv := hr
  generalize hv' : ρ x = v at hv
  cases hv with
  | d hd => cases hd with
   | cptr hb ho' hh =>
    rw [key _ hv']
    exact .same hS h hr
 ·exact h.elim
theorem runFld_sound {t : TypeId} {f off : Nat} {ρ : Operand → Value} {o : Oper} {x : Operand} (ho : o.op = .fieldAddr t x f) {args : List PV} (hS : Sim C X w M E) (hA : RepP w (away X M E) M E ((opsOf o.op).map ρ) args)
  (hok : okKind C.P (.fieldAddr t x f) (.fld off) = true) {base : Nat} (h : runOp C base (.fld off) args M K KP) : Outc C X w M E K KP ((execOp ρ o).run C.P w) := by
 simp only [okKind] at hok
 split at hok
 ·rename_i fs hfs
  split at hok
  ·rename_i fd hfd
   simp only [Bool.and_eq_true, beq_iff_eq] at hok
   obtain ⟨hoff, hok⟩ := hok
   split at hok
   ·rename_i i hi
    simp only [decide_eq_true_eq] at hok
    have hrun : ∀ blk p, ρ x = .pointer (some ⟨blk, p, none⟩) → (execOp ρ o).run C.P w = .ok (.value (.pointer (some ⟨blk, p + off, none⟩))) w := by
     intro blk p hp
     simp [execOp, ho, hp, Instr.fieldAt, run_underlying hfs, hfd, Instr.sureAddr, fieldPlace, run_sizeOf hi, hok, hoff, Addr.add_lit]
    simp only [ho, opsOf, List.map_cons, List.map_nil] at hA
    simp only [runOp] at h
    split at h
    ·rename_i p
     obtain ⟨v, he, hr⟩ := repP_one hA
     simp only [List.cons.injEq, and_true] at he
     subst he
     generalize hv : ρ x = v at hr
     cases p with
     | ptr b o' =>
      cases hr with
      | ptr hl hb hno =>
       rw [hrun _ _ hv]
       exact .same hS h (.ptr hl hb hno)
     | d y =>
      cases y with
      | cptr cs =>
       simp only [runFld] at h
       obtain ⟨h1, hK⟩ := h
       cases hr with
       | d hd => cases hd with
        | cptr hb ho' hh =>
         rw [hrun _ _ hv]
         refine .same hS hK (.d (.cptr hb ho' ?_))
         have := hh.drop off
         rw [List.drop_take, List.drop_drop] at this
         simpa using this
      | _ => simp [runFld] at h
     | eptr k ver i' o' =>
      simp only [runFld] at h
      cases hr with
      | eptr hlt hh =>
       rename_i a
       split at h
       ·rename_i A hA
        obtain ⟨hA1, hver⟩ := row_eq hA
        obtain ⟨hle, h2⟩ := hh A hA1
        obtain ⟨loc, h3, hi', h5⟩ := h2 hver
        cases loc with
        | some q =>
         obtain ⟨blk, o1, e⟩ := q
         simp only [Value.pointer.injEq] at h5
         subst h5
         rw [hrun _ _ hv]
         refine .same hS h (.eptr hlt fun B hB => ?_)
         rw [hA1] at hB; cases hB
         exact ⟨hle, fun _ => ⟨_, h3, hi', by simp [Nat.add_assoc]⟩⟩
        | none =>
         simp only at h5
         generalize hpv : Value.pointer a = pv at h5
         cases h5 with
         | cptr hb ho' hh' =>
          cases hpv
          rw [hrun _ _ hv]
          refine .same hS h (.eptr hlt fun B hB => ?_)
          rw [hA1] at hB; cases hB
          refine ⟨hle, fun _ => ⟨none, h3, hi', ?_⟩⟩
          have := hh'.drop off
          rw [List.drop_take, List.drop_drop, List.drop_drop] at this
          refine .cptr hb ho' ?_
          simp only [List.length_drop] at this ⊢
          rw [show (A.elems[i']?.getD default).cells.length - (o' + off) = (A.elems[i']?.getD default).cells.length - o' - off by omega]
          exact this
       ·exact h.elim
     | _ => simp [runFld] at h
    ·exact h.elim
   ·cases hok
  ·cases hok
 ·cases hok
end
end Go.Am
namespace Go.Am
section
variable {C : Ctx} {X : Nat → Prop} {w : World} {M : Mem} {E : Emb} {K : PV → Mem → Prop} {KP : DV → Mem → Prop} {O : Nat → Prop}
theorem binInt_run {P : Program} {op : BinOp} {k : IntKind} {a b : Int} {t : TypeId} {K : DV → Prop} (h : binInt op k a b K) (w : World) : ∃ d v, (binOp op t (.int k a) (.int k b)).run P w = .ok v w ∧ K d ∧ ∀ O, RepD w O v d := by
 cases op <;> simp only [binInt] at h
 case add => exact ⟨_, _, by simp [binOp, Op.intArith], h, fun O => .int _ _⟩
 case sub => exact ⟨_, _, by simp [binOp, Op.intArith], h, fun O => .int _ _⟩
 case mul => exact ⟨_, _, by simp [binOp, Op.intArith], h, fun O => .int _ _⟩
 case quo => exact ⟨_, _, by simp [binOp, Op.intDiv, h.1], h.2, fun O => .int _ _⟩
 case rem => exact ⟨_, _, by simp [binOp, Op.intDiv, h.1], h.2, fun O => .int _ _⟩
 case eql => exact ⟨_, _, by simp [binOp, Op.intCmp], h, fun O => .bool _⟩
 case neq => exact ⟨_, _, by simp [binOp, Op.intCmp], h, fun O => .bool _⟩
 case lss => exact ⟨_, _, by simp [binOp, Op.intCmp], h, fun O => .bool _⟩
 case leq => exact ⟨_, _, by simp [binOp, Op.intCmp], h, fun O => .bool _⟩
 case gtr => exact ⟨_, _, by simp [binOp, Op.intCmp], h, fun O => .bool _⟩
 case geq => exact ⟨_, _, by simp [binOp, Op.intCmp], h, fun O => .bool _⟩
 case and => exact ⟨_, _, by simp [binOp, Op.intBits], h, fun O => .int _ _⟩
 case or => exact ⟨_, _, by simp [binOp, Op.intBits], h, fun O => .int _ _⟩
 case xor => exact ⟨_, _, by simp [binOp, Op.intBits], h, fun O => .int _ _⟩
 case andNot => exact ⟨_, _, by simp [binOp, Op.intBits], h, fun O => .int _ _⟩
theorem binStr_run {P : Program} {op : BinOp} {a b : ByteArray} {t : TypeId} {K : DV → Prop} (h : binStr op a b K) (w : World) : ∃ d v, (binOp op t (.string a) (.string b)).run P w = .ok v w ∧ K d ∧ ∀ O, RepD w O v d := by
 cases op <;> simp only [binStr] at h
 case add =>
  have h2 : ¬ ((9223372036854775807 : Int) < (a.size : Int) + (b.size : Int)) := by omega
  exact ⟨_, .string (a ++ b), by simp [binOp, Op.stringOp, IntKind.max, IntKind.signed, IntKind.bits]; omega, h.2, fun O => .str _⟩
 case eql => exact ⟨_, _, by simp [binOp, Op.stringOp], h, fun O => .bool _⟩
 case neq => exact ⟨_, _, by simp [binOp, Op.stringOp], h, fun O => .bool _⟩
theorem run_equalIn_bool {P : Program} {a b : Bool} {t : TypeId} (ht : P.underlying t = some .bool) (w : World) (d : Nat) : (Op.equalIn (d + 1) t (.bool a) (.bool b)).run P w = .ok (a == b) w := by
 simp only [Op.equalIn, Sem.run_bind, run_underlying ht, Result.andThen_ok, Sem.run_pure]
theorem binBool_run {P : Program} {a b : Bool} {t : TypeId} (ht : P.underlying t = some .bool) (w : World) :
  (binOp .eql t (.bool a) (.bool b)).run P w = .ok (.bool (a == b)) w ∧ (binOp .neq t (.bool a) (.bool b)).run P w = .ok (.bool (!(a == b))) w := by
 have he : (Op.equal t (.bool a) (.bool b)).run P w = .ok (a == b) w := run_equalIn_bool ht w 9999
 constructor <;> simp [binOp, he]
theorem eqGuard_scalar {P : Program} {op : BinOp} {t : TypeId} {x y : Operand} {a b : Value} (h : (∃ k m, a = .int k m) ∨ (∃ s, a = .string s) ∨ ∃ c, a = .bool c) (w : World) : (eqGuard op t x y a b).run P w = .ok () w := by
 unfold eqGuard
 rcases h with ⟨k, m, rfl⟩ | ⟨s, rfl⟩ | ⟨c, rfl⟩ <;> simp <;> split <;> simp
theorem case_bin {ρ : Operand → Value} {o : Oper} {op op' : BinOp} {t u : TypeId} {x y : Operand} (ho : o.op = .binOp op t x y u) {args : List PV} (hS : Sim C X w M E) (hA : RepP w (away X M E) M E ((opsOf o.op).map ρ) args)
  (hok : okKind C.P (.binOp op t x y u) (.bin op') = true) {base : Nat} (h : runOp C base (.bin op') args M K KP) : Outc C X w M E K KP ((execOp ρ o).run C.P w) := by
 simp only [okKind, Bool.and_eq_true, decide_eq_true_eq] at hok
 obtain ⟨rfl, hsc⟩ := hok
 simp only [ho, opsOf, List.map_cons, List.map_nil] at hA
 simp only [runOp] at h
 split at h
 ·rename_i p q
  obtain ⟨v, u', he, hr, hr2⟩ := repP_two hA
  simp only [List.cons.injEq, and_true] at he
  obtain ⟨rfl, rfl⟩ := he
  have fin : ∀ {d : DV} {v : Value}, K (.d d) M → (∀ O, RepD w O v d) → (eqGuard op t x y (ρ x) (ρ y)).run C.P w = .ok () w → (binOp op t (ρ x) (ρ y)).run C.P w = .ok v w → Outc C X w M E K KP ((execOp ρ o).run C.P w) := by
   intro d v hK hR hg hb
   have hrun : (execOp ρ o).run C.P w = .ok (.value v) w := by simp [execOp, ho, hg, hb]
   rw [hrun]
   exact .same hS hK (.d (hR _))
  unfold binDV at h
  split at h
  ·obtain ⟨rfl, h⟩ := h
   have e1 := hr.toD.int_inv
   have e2 := hr2.toD.int_inv
   obtain ⟨d, v, g1, g2, g3⟩ := binInt_run (P := C.P) (t := t) h w
   exact fin g2 g3 (eqGuard_scalar (.inl ⟨_, _, e1⟩) w) (by rw [e1, e2]; exact g1)
  ·have e1 := hr.toD.str_inv
   have e2 := hr2.toD.str_inv
   obtain ⟨d, v, g1, g2, g3⟩ := binStr_run (P := C.P) (t := t) h w
   exact fin g2 g3 (eqGuard_scalar (.inr (.inl ⟨_, e1⟩)) w) (by rw [e1, e2]; exact g1)
  ·exact h.elim
 ·exact h.elim
theorem case_binB {ρ : Operand → Value} {o : Oper} {op : BinOp} {neq : Bool} {t u : TypeId} {x y : Operand} (ho : o.op = .binOp op t x y u) {args : List PV} (hS : Sim C X w M E) (hA : RepP w (away X M E) M E ((opsOf o.op).map ρ) args)
  (hok : okKind C.P (.binOp op t x y u) (.binB neq) = true) {base : Nat} (h : runOp C base (.binB neq) args M K KP) : Outc C X w M E K KP ((execOp ρ o).run C.P w) := by
 simp only [okKind, Bool.and_eq_true] at hok
 obtain ⟨hop, hty⟩ := hok
 split at hty
 ·rename_i hun
  simp only [ho, opsOf, List.map_cons, List.map_nil] at hA
  simp only [runOp] at h
  split at h
  ·rename_i a b
   obtain ⟨v, u', he, hr, hr2⟩ := repP_two hA
   simp only [List.cons.injEq, and_true] at he
   obtain ⟨rfl, rfl⟩ := he
   have e1 := hr.toD.bool_inv
   have e2 := hr2.toD.bool_inv
   obtain ⟨b1, b2⟩ := binBool_run (P := C.P) (a := a) (b := b) hun w
   have hg := eqGuard_scalar (P := C.P) (op := op) (t := t) (x := x) (y := y) (b := ρ y) (.inr (.inr ⟨_, e1⟩)) w
   have hrun : (execOp ρ o).run C.P w = .ok (.value (.bool ((a == b) != neq))) w := by
    cases op <;> simp only [Bool.not_eq_true', Bool.false_eq_true] at hop
    ·subst hop
     simp only [execOp, ho, Sem.run_bind, hg, Result.andThen_ok]
     rw [e1, e2, b1]
     simp
    ·subst hop
     simp only [execOp, ho, Sem.run_bind, hg, Result.andThen_ok]
     rw [e1, e2, b2]
     simp
   rw [hrun]
   exact .same hS h (.d (.bool _))
  ·exact h.elim
 ·cases hty
theorem case_un {ρ : Operand → Value} {o : Oper} {op op' : UnOp} {t : TypeId} {x : Operand} (ho : o.op = .unOp op t x) {args : List PV} (hS : Sim C X w M E) (hA : RepP w (away X M E) M E ((opsOf o.op).map ρ) args)
  (hok : okKind C.P (.unOp op t x) (.un op') = true) {base : Nat} (h : runOp C base (.un op') args M K KP) : Outc C X w M E K KP ((execOp ρ o).run C.P w) := by
 simp only [okKind, decide_eq_true_eq] at hok
 subst hok
 simp only [ho, opsOf, List.map_cons, List.map_nil] at hA
 simp only [runOp] at h
 split at h
 ·obtain ⟨v, he, hr⟩ := repP_one hA
  simp only [List.cons.injEq, and_true] at he
  subst he
  unfold unDV at h
  split at h
  ·rename_i k n
   have e1 := hr.toD.int_inv
   have hrun : (execOp ρ o).run C.P w = .ok (.value (.int k (k.wrap (0 - n)))) w := by simp [execOp, ho, e1, Op.unary, Op.intArith]
   rw [hrun]
   exact .same hS h (.d (.int _ _))
  ·rename_i b
   have e1 := hr.toD.bool_inv
   have hrun : (execOp ρ o).run C.P w = .ok (.value (.bool !b)) w := by simp [execOp, ho, e1, Op.unary]
   rw [hrun]
   exact .same hS h (.d (.bool _))
  ·exact h.elim
 ·exact h.elim
theorem case_conv {ρ : Operand → Value} {o : Oper} {k : IntKind} {s d : TypeId} {x : Operand} (ho : o.op = .convert s d x) {args : List PV} (hS : Sim C X w M E) (hA : RepP w (away X M E) M E ((opsOf o.op).map ρ) args)
  (hok : okKind C.P (.convert s d x) (.conv k) = true) {base : Nat} (h : runOp C base (.conv k) args M K KP) : Outc C X w M E K KP ((execOp ρ o).run C.P w) := by
 simp only [okKind, Bool.and_eq_true] at hok
 obtain ⟨hs, hd⟩ := hok
 split at hs
 ·rename_i k' hk'
  split at hd
  ·rename_i k'' hk''
   simp only [decide_eq_true_eq] at hd
   subst hd
   simp only [ho, opsOf, List.map_cons, List.map_nil] at hA
   simp only [runOp] at h
   split at h
   ·obtain ⟨v, he, hr⟩ := repP_one hA
    simp only [List.cons.injEq, and_true] at he
    subst he
    rename_i kk n
    have e1 := hr.toD.int_inv
    have hrun : (execOp ρ o).run C.P w = .ok (.value (.int k'' (k''.wrap n))) w := by simp [execOp, ho, e1, convert, run_underlying hk', run_underlying hk'', Conv.intToInt]
    rw [hrun]
    exact .same hS h (.d (.int _ _))
   ·exact h.elim
  ·cases hd
 ·cases hs
theorem case_mkI {ρ : Operand → Value} {o : Oper} {t t' : TypeId} {x : Operand} (ho : o.op = .makeInterface t x) {args : List PV} (hS : Sim C X w M E) (hA : RepP w (away X M E) M E ((opsOf o.op).map ρ) args)
  (hok : okKind C.P (.makeInterface t x) (.mkI t') = true) {base : Nat} (h : runOp C base (.mkI t') args M K KP) : Outc C X w M E K KP ((execOp ρ o).run C.P w) := by
 simp only [okKind, Bool.and_eq_true, decide_eq_true_eq] at hok
 obtain ⟨rfl, hd⟩ := hok
 simp only [ho, opsOf, List.map_cons, List.map_nil] at hA
 simp only [runOp] at h
 split at h
 ·rename_i p
  obtain ⟨v, he, hr⟩ := repP_one hA
  simp only [List.cons.injEq, and_true] at he
  subst he
  split at h
  ·rename_i d hdt
   have hrun : (execOp ρ o).run C.P w = .ok (.value (.iface t (ρ x))) w := by
    split at hd
    ·cases hd
    ·rename_i dd hdd hun
     have := run_underlying (w := w) hun
     cases dd <;> first | (exact absurd rfl (hdd _)) | simp [execOp, ho, Instr.makeInterface, this]
    ·cases hd
   rw [hrun]
   exact ⟨_, _, _, h, sim_frz hS [p], from_frz [p] w, .d (.iface (datum_frz hS hr hdt (by simp)))⟩
  ·exact h.elim
 ·exact h.elim
theorem map_take_toArray (ρ : Operand → Value) (a b : Array Operand) : ((a.toList ++ b.toList).map ρ).take a.size = (a.map ρ).toList ∧ ((a.toList ++ b.toList).map ρ).drop a.size = (b.map ρ).toList := by
 constructor <;> simp
theorem case_mkF {ρ : Operand → Value} {o : Oper} {fn fn' : Fn} {nf : Nat} {first captured : Array Operand} (ho : o.op = .makeFunc fn first captured) {args : List PV} (hS : Sim C X w M E) (hA : RepP w (away X M E) M E ((opsOf o.op).map ρ) args)
  (hok : okKind C.P (.makeFunc fn first captured) (.mkF fn' nf) = true) {base : Nat} (h : runOp C base (.mkF fn' nf) args M K KP) : Outc C X w M E K KP ((execOp ρ o).run C.P w) := by
 simp only [okKind, Bool.and_eq_true, decide_eq_true_eq, beq_iff_eq] at hok
 obtain ⟨rfl, rfl⟩ := hok
 simp only [ho, opsOf] at hA
 have hrun : (execOp ρ o).run C.P w = .ok (.value (.func fn (first.map ρ) (captured.map ρ))) w := by simp [execOp, ho, Instr.makeFunc]
 rw [hrun]
 obtain ⟨e1, e2⟩ := map_take_toArray ρ first captured
 simp only [runOp] at h
 split at h
 ·rename_i ds hds
  have hL := hA.allD hds
  refine .same hS h (.d (.func ?_ ?_))
  ·rw [← e1]; exact hL.take _
  ·rw [← e2]; exact hL.drop _
 ·refine .same hS h (.func ?_ ?_)
  ·rw [← e1]; exact hA.take _
  ·rw [← e2]; exact hA.drop _
theorem run_part {P : Program} {t : TypeId} {agg : Bool} {n off : Nat} {cs : Array Value} (h : okAgg P t agg n = true) (hl : off + n ≤ cs.size) (w : World) :
  (part t cs off).run P w = .ok (bif agg then .agg ((cs.toList.drop off).take n).toArray else cs.toList.getD off undef) w := by
 obtain ⟨h1, h2, h3⟩ := okAgg_run h w
 cases agg with
 | true =>
  simp only [part, Sem.run_bind, h1, Result.andThen_ok, if_true, h2 rfl, Sem.run_pure, cond_true]
  congr 2
  apply Array.ext'
  simp
 | false =>
  have := h3 rfl
  subst this
  have hlt : off < cs.size := by omega
  simp [part, h1, hlt, List.getD]
theorem part_rep {P : Program} {t : TypeId} {agg : Bool} {n off : Nat} {vs : Array Value} {cs : List PV} (h : okAgg P t agg n = true) (hr : RepP w O M E vs.toList cs) (hn : off + n ≤ cs.length) :
  ∃ v, (part t vs off).run P w = .ok v w ∧ Rep w O M E v (ld agg n off cs) := by
 have hl := hr.length
 simp only [Array.length_toList] at hl
 have h3 := (okAgg_run h w).2.2
 refine ⟨_, run_part h (by omega) w, ?_⟩
 cases agg with
 | true => exact Rep.mkAgg ((hr.drop off).take n)
 | false =>
  have hn1 := h3 rfl
  have hlt : off < cs.length := by omega
  obtain ⟨v, hv, hrd⟩ := hr.get' off cs[off] (List.getElem?_eq_getElem hlt)
  simp only [cond_false, ld]
  rw [getD_eq hlt, List.getD, hv]
  exact hrd
theorem agg_of_rep {v : Value} {p : PV} (h : Rep w O M E v p) (hp : p.isAgg = true) : ∃ vs, v = .agg vs ∧ RepP w O M E vs.toList p.cells := by
 cases h with
 | d hd =>
  cases hd with
  | agg hh => exact ⟨_, rfl, RepP.ofD hh⟩
  | _ => cases hp
 | agg hh => exact ⟨_, rfl, hh⟩
 | _ => cases hp
theorem case_fldv {ρ : Operand → Value} {o : Oper} {t : TypeId} {x : Operand} {f off n : Nat} {agg : Bool} (ho : o.op = .field t x f) {args : List PV} (hS : Sim C X w M E) (hA : RepP w (away X M E) M E ((opsOf o.op).map ρ) args)
  (hok : okKind C.P (.field t x f) (.fldv agg off n) = true) {base : Nat} (h : runOp C base (.fldv agg off n) args M K KP) : Outc C X w M E K KP ((execOp ρ o).run C.P w) := by
 simp only [okKind] at hok
 split at hok
 ·rename_i fs hfs
  split at hok
  ·rename_i fd hfd
   simp only [Bool.and_eq_true, beq_iff_eq] at hok
   obtain ⟨rfl, hok⟩ := hok
   simp only [ho, opsOf, List.map_cons, List.map_nil] at hA
   simp only [runOp] at h
   split at h
   ·obtain ⟨v, he, hr⟩ := repP_one hA
    simp only [List.cons.injEq, and_true] at he
    subst he
    obtain ⟨h0, h1, hK⟩ := h
    obtain ⟨vs, hv, hcs⟩ := agg_of_rep hr h0
    obtain ⟨u, g1, g2⟩ := part_rep hok hcs h1
    have hrun : (execOp ρ o).run C.P w = .ok (.value u) w := by simp [execOp, ho, hv, Instr.field, run_underlying hfs, hfd, asAgg, g1]
    rw [hrun]
    exact .same hS hK g2
   ·exact h.elim
  ·cases hok
 ·cases hok
theorem case_idxV {ρ : Operand → Value} {o : Oper} {t : TypeId} {x i : Operand} {sz len : Nat} {agg : Bool} (ho : o.op = .index t x i) {args : List PV} (hS : Sim C X w M E) (hA : RepP w (away X M E) M E ((opsOf o.op).map ρ) args)
  (hok : okKind C.P (.index t x i) (.idxV agg sz len) = true) {base : Nat} (h : runOp C base (.idxV agg sz len) args M K KP) : Outc C X w M E K KP ((execOp ρ o).run C.P w) := by
 simp only [okKind] at hok
 split at hok
 ·rename_i n e hun
  simp only [Bool.and_eq_true, beq_iff_eq] at hok
  obtain ⟨⟨rfl, hsz⟩, hagg⟩ := hok
  split at hsz
  ·rename_i inf hinf
   simp only [beq_iff_eq] at hsz
   simp only [ho, opsOf, List.map_cons, List.map_nil] at hA
   simp only [runOp] at h
   split at h
   ·rename_i p k m
    obtain ⟨v, u, he, hr, hr2⟩ := repP_two hA
    simp only [List.cons.injEq, and_true] at he
    obtain ⟨rfl, rfl⟩ := he
    obtain ⟨h0, h1, h2, h3, hK⟩ := h
    obtain ⟨vs, hv, hcs⟩ := agg_of_rep hr h0
    obtain ⟨u, g1, g2⟩ := part_rep hagg hcs h3
    have e2 := hr2.toD.int_inv
    have hrun : (execOp ρ o).run C.P w = .ok (.value u) w := by
     simp [execOp, ho, hv, e2, Instr.index, asIntOf, run_underlying hun, h1, h2, run_sizeOf hinf, hsz, g1]
    rw [hrun]
    exact .same hS hK g2
   ·exact h.elim
  ·cases hsz
 ·cases hok
theorem case_idxS {ρ : Operand → Value} {o : Oper} {t : TypeId} {x i : Operand} (ho : o.op = .index t x i) {args : List PV} (hS : Sim C X w M E) (hA : RepP w (away X M E) M E ((opsOf o.op).map ρ) args)
  (hok : okKind C.P (.index t x i) .idxS = true) {base : Nat} (h : runOp C base .idxS args M K KP) : Outc C X w M E K KP ((execOp ρ o).run C.P w) := by
 simp only [okKind] at hok
 split at hok
 ·rename_i hun
  simp only [ho, opsOf, List.map_cons, List.map_nil] at hA
  simp only [runOp] at h
  split at h
  ·rename_i s k m
   obtain ⟨v, u, he, hr, hr2⟩ := repP_two hA
   simp only [List.cons.injEq, and_true] at he
   obtain ⟨rfl, rfl⟩ := he
   obtain ⟨h1, h2, hK⟩ := h
   have e1 := hr.toD.str_inv
   have e2 := hr2.toD.int_inv
   have hrun : (execOp ρ o).run C.P w = .ok (.value (.int .u8 (s.data.getD m.toNat 0).toNat)) w := by
    have h2' : m.toNat < s.data.size := h2
    have hg : s[m.toNat]? = some (s.data.getD m.toNat 0) := by
     rw [getElem?_pos s m.toNat h2]
     congr 1
     show s.data[m.toNat] = s.data.getD m.toNat 0
     simp [Array.getD]
     intro hh
     exact absurd h2 (by omega)
    simp only [execOp, ho, e1, e2, Instr.index, asIntOf, pure_bind, Sem.run_bind, run_underlying hun, Result.andThen_ok, h1, if_true, hg, Sem.run_pure]
   rw [hrun]
   exact .same hS hK (.d (.int _ _))
  ·exact h.elim
 ·cases hok
theorem case_idxA {ρ : Operand → Value} {o : Oper} {t : TypeId} {x i : Operand} {sz : Nat} (ho : o.op = .indexAddr t x i) {args : List PV} (hS : Sim C X w M E) (hA : RepP w (away X M E) M E ((opsOf o.op).map ρ) args)
  (hok : okKind C.P (.indexAddr t x i) (.idxA sz) = true) {base : Nat} (h : runOp C base (.idxA sz) args M K KP) : Outc C X w M E K KP ((execOp ρ o).run C.P w) := by
 simp only [okKind] at hok
 split at hok
 ·rename_i e hun
  split at hok
  ·rename_i inf hinf
   simp only [Bool.and_eq_true, beq_iff_eq, decide_eq_true_eq] at hok
   obtain ⟨hsz, hpos⟩ := hok
   have hrun : ∀ blk p len cap k m, ρ x = .slice (some ⟨blk, p, none⟩) len cap → ρ i = .int k m → 0 ≤ m → m.toNat < len → (execOp ρ o).run C.P w = .ok (.value (.pointer (some ⟨blk, p + m.toNat * sz, none⟩))) w := by
    intro blk p len cap k m h1 h2 h3 h4
    have h5 : m < (len : Int) := by omega
    simp [execOp, ho, h1, h2, Instr.indexAt, asIntOf, run_underlying hun, h3, h5, run_sizeOf hinf, hsz, Addr.add_lit]
   simp only [ho, opsOf, List.map_cons, List.map_nil] at hA
   simp only [runOp] at h
   split at h
   ·rename_i p q
    obtain ⟨v, u, he, hr, hr2⟩ := repP_two hA
    simp only [List.cons.injEq, and_true] at he
    obtain ⟨rfl, rfl⟩ := he
    unfold runIdxA at h
    split at h
    ·rename_i ex xs k m
     obtain ⟨h1, h2, h3, hK⟩ := h
     have e2 := hr2.toD.int_inv
     rw [getD_eq h2] at h3 hK
     have hd := hr.toD
     generalize hv : ρ x = v at hd
     cases hd with
     | empty => simp at h2
     | slice hb ho' hl hs hc hx hh =>
      rename_i blk off len cap sz' cs T fz
      have hsz' : sz' = sz := by rw [← hs _ (List.getElem_mem h2), h3]
      subst hsz'
      rw [hrun _ _ _ _ _ _ hv e2 h1 (by omega)]
      refine .same hS hK (.d (.cptr hb ho' ?_))
      have hin : m.toNat * sz' + sz' ≤ xs.length * sz' := by rw [← Nat.succ_mul]; exact Nat.mul_le_mul_right _ h2
      have h4 := (hh.drop (m.toNat * sz')).take sz'
      rw [flat_get hs h2, List.drop_take, List.drop_drop, List.take_take] at h4
      rw [h3]
      rw [hl] at hin
      rw [Nat.min_eq_left (by omega)] at h4
      exact h4
    ·rename_i k ver skip kk m
     split at h
     ·rename_i A hrow
      obtain ⟨h0, h1, h2, hK⟩ := h
      obtain ⟨hA1, hver⟩ := row_eq hrow
      have e2 := hr2.toD.int_inv
      generalize hv : ρ x = v at hr
      cases hr with
      | tsl hlt hh =>
       rename_i len cap a
       obtain ⟨hle, hh2⟩ := hh A hA1
       obtain ⟨loc, h3, h4, h5⟩ := hh2 hver
       have hi : skip + m.toNat < A.elems.length := h2
       cases loc with
       | some q =>
        obtain ⟨blk, o1, e1⟩ := q
        simp only at h5
        rcases h5 with ⟨cap', he', hc, hcap⟩ | ⟨hn, _⟩
        ·cases he'
         rw [hrun _ _ _ _ _ _ hv e2 h1 (by omega)]
         refine .same hS hK (.eptr hlt fun B hB => ?_)
         rw [hA1] at hB; cases hB
         exact ⟨hle, fun _ => ⟨_, h3, hi, by simp only [Value.pointer.injEq, Option.some.injEq, Addr.mk.injEq, true_and, and_true]; rw [h0, Nat.add_mul]; omega⟩⟩
        ·omega
       | none =>
        simp only at h5
        generalize hds : A.elems.drop skip = ds at h5
        have hlen : ds.length = A.elems.length - skip := by rw [← hds]; simp
        generalize hpv : Value.slice a len cap = pv at h5
        cases h5 with
        | empty => simp at hlen; omega
        | slice hb ho' hl hs hc hx hh' =>
         rename_i blk off len' cap' sz' cs T fz
         cases hpv
         have hlt' : m.toNat < ds.length := by omega
         have hel : ds[m.toNat] = A.elems[skip + m.toNat] := by subst hds; simp
         have hfit := (hS.arr k A hA1).2.1 _ (List.getElem_mem hi)
         have hsz' : sz' = sz := by
          have := hs _ (List.getElem_mem hlt')
          rw [hel, DV.fits_len hfit] at this
          omega
         subst hsz'
         rw [hrun _ _ _ _ _ _ hv e2 h1 (by omega)]
         refine .same hS hK (.eptr hlt fun B hB => ?_)
         rw [hA1] at hB; cases hB
         refine ⟨hle, fun _ => ⟨none, h3, hi, ?_⟩⟩
         simp only [List.drop_zero, List.getElem?_eq_getElem hi, Option.getD_some]
         refine .cptr hb ho' ?_
         have hin : m.toNat * sz' + sz' ≤ ds.length * sz' := by rw [← Nat.succ_mul]; exact Nat.mul_le_mul_right _ hlt'
         have h4' := (hh'.drop (m.toNat * sz')).take sz'
         rw [flat_get hs hlt', List.drop_take, List.drop_drop, List.take_take, hel] at h4'
         rw [DV.fits_len hfit, h0]
         rw [hl] at hin
         rw [Nat.min_eq_left (by omega)] at h4'
         exact h4'
     ·exact h.elim
    ·exact h.elim
   ·exact h.elim
  ·cases hok
 ·cases hok
end
end Go.Am
namespace Go.Am
section
variable {C : Ctx} {X : Nat → Prop} {w : World} {M : Mem} {E : Emb} {K : PV → Mem → Prop} {KP : DV → Mem → Prop} {O : Nat → Prop}
theorem part_scalar {P : Program} {t : TypeId} {k off : Nat} {cs : Array Value} {v : Value} (h : scalarKind (P.underlying t) k = true) (hv : cs[off]? = some v) : (part t cs off).run P w = .ok v w := by
 have : (isAgg t).run P w = .ok false w := by
  unfold scalarKind at h
  split at h
  ·rename_i hu; simp [isAgg, run_underlying hu]
  ·rename_i hu; simp [isAgg, run_underlying hu]
  ·rename_i hu; simp [isAgg, run_underlying hu]
  ·cases h
 simp [part, this, hv]
theorem eqFields_run {P : Program} {xs ys : Array Value} (d : Nat) : ∀ {fs : List Field} {ks : List Nat} {off : Nat} {l m : List DV} {t : Bool}, scalarFields P fs ks off = true → RepL w O (xs.toList.drop off) l → RepL w O (ys.toList.drop off) m →
  cellsEq ks l m = some t → (Op.eqFields (d + 1) xs ys fs).run P w = .ok t w
 | [], [], off, l, m, t, _, hl, hm, hc => by
  cases l <;> cases m <;> simp [cellsEq] at hc
  subst hc
  simp [Op.eqFields]
 | f :: fs, k :: ks, off, l, m, t, hs, hl, hm, hc => by
  simp only [scalarFields, Bool.and_eq_true, decide_eq_true_eq] at hs
  obtain ⟨⟨⟨hoff, hk⟩, hn⟩, hs⟩ := hs
  have step : ∀ {a b : DV} {l' m' : List DV} {t1 t2 : Bool}, l = a :: l' → m = b :: m' → cellsEq ks l' m' = some t2 → t = (t1 && t2) →
    (∀ u v, RepD w O u a → RepD w O v b → (Op.equalIn (d + 1) f.type u v).run P w = .ok t1 w) → (Op.eqFields (d + 1) xs ys (f :: fs)).run P w = .ok t w := by
   intro a b l' m' t1 t2 e1 e2 h2 ht heq
   subst e1; subst e2
   generalize hx : xs.toList.drop off = xl at hl
   generalize hy : ys.toList.drop off = yl at hm
   cases hl with
   | cons hu hl' => cases hm with
    | cons hv hm' =>
     rename_i u us v vs
     have hx0 : xs[off]? = some u := by
      have : (xs.toList.drop off)[0]? = some u := by rw [hx]; rfl
      simpa using this
     have hy0 : ys[off]? = some v := by
      have : (ys.toList.drop off)[0]? = some v := by rw [hy]; rfl
      simpa using this
     have hx1 : xs.toList.drop (off + 1) = us := by
      rw [← List.drop_drop, hx]; rfl
     have hy1 : ys.toList.drop (off + 1) = vs := by
      rw [← List.drop_drop, hy]; rfl
     have ih := eqFields_run (xs := xs) (ys := ys) d hs (hx1 ▸ hl') (hy1 ▸ hm') h2
     simp only [Op.eqFields, hn, ne_eq, not_false_eq_true, if_true, Sem.run_bind, hoff, part_scalar hk hx0, part_scalar hk hy0, Result.andThen_ok, heq u v hu hv, Sem.run_ite, ih, Sem.run_pure]
     cases t1 <;> simp [ht]
  unfold cellsEq at hc
  split at hc
  ·contradiction
  ·rename_i ks' k1 a l' k2 b m' heq
   cases heq
   split at hc
   ·rename_i hkk
    subst hkk
    rw [Option.map_eq_some_iff] at hc
    obtain ⟨t2, h2, h3⟩ := hc
    refine step rfl rfl h2 h3.symm fun u v hu hv => ?_
    have := hu.int_inv; subst this
    have := hv.int_inv; subst this
    unfold scalarKind at hk
    split at hk
    ·cases hk
    ·rename_i hun; exact run_equalIn_int w d f.type k1 _ a b hun
    ·cases hk
    ·cases hk
   ·cases hc
  ·rename_i ks' a l' b m' heq
   cases heq
   rw [Option.map_eq_some_iff] at hc
   obtain ⟨t2, h2, h3⟩ := hc
   refine step rfl rfl h2 h3.symm fun u v hu hv => ?_
   have := hu.bool_inv; subst this
   have := hv.bool_inv; subst this
   unfold scalarKind at hk
   split at hk
   ·rename_i hun; exact Go.run_equalIn_bool w d f.type a b hun
   ·cases hk
   ·cases hk
   ·cases hk
  ·rename_i ks' a l' b m' heq
   cases heq
   rw [Option.map_eq_some_iff] at hc
   obtain ⟨t2, h2, h3⟩ := hc
   refine step rfl rfl h2 h3.symm fun u v hu hv => ?_
   have := hu.str_inv; subst this
   have := hv.str_inv; subst this
   unfold scalarKind at hk
   split at hk
   ·cases hk
   ·cases hk
   ·rename_i hun; exact run_equalIn_string w d f.type a b hun
   ·cases hk
  ·cases hc
 | [], _ :: _, _, _, _, _, hs, _, _, _ => by simp [scalarFields] at hs
 | _ :: _, [], _, _, _, _, hs, _, _, _ => by simp [scalarFields] at hs
theorem case_binA {ρ : Operand → Value} {o : Oper} {op : BinOp} {neq : Bool} {ks : List Nat} {t u : TypeId} {x y : Operand} (ho : o.op = .binOp op t x y u) {args : List PV} (hS : Sim C X w M E) (hA : RepP w (away X M E) M E ((opsOf o.op).map ρ) args)
  (hok : okKind C.P (.binOp op t x y u) (.binA neq ks) = true) {base : Nat} (h : runOp C base (.binA neq ks) args M K KP) : Outc C X w M E K KP ((execOp ρ o).run C.P w) := by
 simp only [okKind, Bool.and_eq_true] at hok
 obtain ⟨hop, hty⟩ := hok
 split at hty
 ·rename_i fs hun
  simp only [Bool.and_eq_true, Bool.not_eq_true'] at hty
  obtain ⟨⟨hsc, hst⟩, hgt⟩ := hty
  have hfo : C.P.fieldsOf t = fs := by simp [Program.fieldsOf, hun]
  simp only [ho, opsOf, List.map_cons, List.map_nil] at hA
  simp only [runOp] at h
  split at h
  ·rename_i a b
   obtain ⟨v, u', he, hr, hr2⟩ := repP_two hA
   simp only [List.cons.injEq, and_true] at he
   obtain ⟨rfl, rfl⟩ := he
   split at h
   ·rename_i tt htt
    obtain ⟨xs, e1, hx⟩ := hr.toD.agg_inv
    obtain ⟨ys, e2, hy⟩ := hr2.toD.agg_inv
    have heq : (Op.equalIn 10000 t (.agg xs) (.agg ys)).run C.P w = .ok tt w := by
     rw [run_equalIn_agg w 9999 t xs ys (by rw [hfo]; exact hun) hst, hfo]
     exact eqFields_run 9998 hsc (by simpa using hx) (by simpa using hy) htt
    have hg := run_eqGuard_agg (P := C.P) w op t x y xs ys hgt
    have hrun : (execOp ρ o).run C.P w = .ok (.value (.bool (tt != neq))) w := by
     cases op <;> simp only [Bool.not_eq_true', Bool.false_eq_true] at hop
     ·subst hop
      simp only [execOp, ho, Sem.run_bind, e1, e2, hg, Result.andThen_ok, run_eql_struct, heq, Sem.run_pure]
      simp
     ·subst hop
      simp only [execOp, ho, Sem.run_bind, e1, e2, hg, Result.andThen_ok, run_neq_struct, heq, Sem.run_pure]
      simp
    rw [hrun]
    exact .same hS h (.d (.bool _))
   ·exact h.elim
  ·exact h.elim
 ·cases hty
theorem case_ext {ρ : Operand → Value} {o : Oper} {x : Operand} {i j : Nat} (ho : o.op = .extract x i) {args : List PV} (hS : Sim C X w M E) (hA : RepP w (away X M E) M E ((opsOf o.op).map ρ) args)
  (hok : okKind C.P (.extract x i) (.ext j) = true) {base : Nat} (h : runOp C base (.ext j) args M K KP) : Outc C X w M E K KP ((execOp ρ o).run C.P w) := by
 simp only [okKind, beq_iff_eq] at hok
 subst hok
 simp only [ho, opsOf, List.map_cons, List.map_nil] at hA
 simp only [runOp] at h
 split at h
 ·obtain ⟨v, he, hr⟩ := repP_one hA
  simp only [List.cons.injEq, and_true] at he
  subst he
  split at h
  ·rename_i d hd
   have hdd := hr.toD
   generalize hv : ρ x = v at hdd
   cases hdd with
   | tup hh =>
    obtain ⟨u, h1, h2⟩ := hh.get' i d hd
    have hrun : (execOp ρ o).run C.P w = .ok (.value u) w := by
     simp [execOp, ho, hv, Instr.extract, Array.getElem?_toList ▸ h1]
    rw [hrun]
    exact .same hS h (.d h2)
  ·exact h.elim
 ·obtain ⟨v, he, hr⟩ := repP_one hA
  simp only [List.cons.injEq, and_true] at he
  subst he
  split at h
  ·rename_i d hd
   generalize hv : ρ x = v at hr
   cases hr with
   | tup hh =>
    obtain ⟨u, h1, h2⟩ := hh.get' i d hd
    have hrun : (execOp ρ o).run C.P w = .ok (.value u) w := by
     simp [execOp, ho, hv, Instr.extract, Array.getElem?_toList ▸ h1]
    rw [hrun]
    exact .same hS h h2
  ·exact h.elim
 ·exact h.elim
theorem Rep.slice_inv {v : Value} {k ver skip : Nat} {A : Arr} (hr : Rep w O M E v (.tsl k ver skip)) (hA : M.row k ver = some A) : ∃ a cap, v = .slice a (A.elems.length - skip) cap := by
 obtain ⟨hA1, hver⟩ := row_eq hA
 cases hr with
 | tsl hlt hh =>
  obtain ⟨_, h2⟩ := hh A hA1
  obtain ⟨loc, _, _, h5⟩ := h2 hver
  cases loc with
  | some q =>
   obtain ⟨blk, o, e⟩ := q
   rcases h5 with ⟨cap', he, _⟩ | ⟨hn, a', he⟩
   ·cases he; exact ⟨_, _, rfl⟩
   ·cases he; exact ⟨_, _, by rw [hn, Nat.sub_self]⟩
  | none =>
   obtain ⟨a', c', he⟩ := RepD.slice_inv h5
   exact ⟨a', c', by rw [he]; simp⟩
theorem one_type {argTypes : Array TypeId} {p : Option TypeDesc → Bool} {P : Program} (h : (argTypes.size == 1 && p (P.underlying (argTypes.getD 0 0))) = true) : ∃ t, argTypes = #[t] ∧ p (P.underlying t) = true := by
 simp only [Bool.and_eq_true, beq_iff_eq] at h
 obtain ⟨h1, h2⟩ := h
 obtain ⟨t, rfl⟩ := Array.size_eq_one_iff.1 h1
 exact ⟨t, rfl, by simpa using h2⟩
theorem case_len {ρ : Operand → Value} {o : Oper} {argTypes : Array TypeId} {as : Array Operand} (ho : o.op = .call { callee := .builtin .len, args := as, argTypes }) {args : List PV} (hS : Sim C X w M E) (hA : RepP w (away X M E) M E ((opsOf o.op).map ρ) args)
  (hok : okKind C.P (.call { callee := .builtin .len, args := as, argTypes }) .len = true) {base : Nat} (h : runOp C base .len args M K KP) : Outc C X w M E K KP ((execOp ρ o).run C.P w) := by
 simp only [okKind] at hok
 simp only [ho, opsOf] at hA
 simp only [runOp] at h
 split at h
 ·rename_i p
  obtain ⟨v, he, hr⟩ := repP_one hA
  obtain ⟨t, rfl, hu⟩ := one_type (p := fun d => match d with | some (.slice _) => true | _ => false) hok
  split at hu
  ·rename_i e hun
   have has : as.map ρ = #[v] := by apply Array.ext'; simpa using he
   have hrun : ∀ a n cap, v = .slice a n cap → (execOp ρ o).run C.P w = .ok (.value (.int .i64 n)) w := by
    intro a n cap hv
    simp [execOp, ho, resolve, has, invoke, builtin, Builtin.len_, run_underlying hun, hv, goInt]
   unfold runLen at h
   split at h
   ·obtain ⟨a, cap, hv⟩ := hr.toD.slice_inv
    rw [hrun _ _ _ hv]
    exact .same hS h (.d (.int _ _))
   ·split at h
    ·rename_i A hA'
     obtain ⟨a, cap, hv⟩ := hr.slice_inv hA'
     rw [hrun _ _ _ hv]
     exact .same hS h (.d (.int _ _))
    ·exact h.elim
   ·exact h.elim
  ·cases hu
 ·exact h.elim
theorem case_lenS {ρ : Operand → Value} {o : Oper} {argTypes : Array TypeId} {as : Array Operand} (ho : o.op = .call { callee := .builtin .len, args := as, argTypes }) {args : List PV} (hS : Sim C X w M E) (hA : RepP w (away X M E) M E ((opsOf o.op).map ρ) args)
  (hok : okKind C.P (.call { callee := .builtin .len, args := as, argTypes }) .lenS = true) {base : Nat} (h : runOp C base .lenS args M K KP) : Outc C X w M E K KP ((execOp ρ o).run C.P w) := by
 simp only [okKind] at hok
 simp only [ho, opsOf] at hA
 simp only [runOp] at h
 split at h
 ·rename_i s
  obtain ⟨v, he, hr⟩ := repP_one hA
  obtain ⟨t, rfl, hu⟩ := one_type (p := fun d => match d with | some .string => true | _ => false) hok
  split at hu
  ·rename_i hun
   have has : as.map ρ = #[v] := by apply Array.ext'; simpa using he
   have hv := hr.toD.str_inv
   have hrun : (execOp ρ o).run C.P w = .ok (.value (.int .i64 s.size)) w := by
    simp [execOp, ho, resolve, has, invoke, builtin, Builtin.len_, run_underlying hun, hv, goInt]
   rw [hrun]
   exact .same hS h (.d (.int _ _))
  ·cases hu
 ·exact h.elim
theorem case_lenC {ρ : Operand → Value} {o : Oper} {n : Nat} {argTypes : Array TypeId} {as : Array Operand} (ho : o.op = .call { callee := .builtin .len, args := as, argTypes }) {args : List PV} (hS : Sim C X w M E)
  (hok : okKind C.P (.call { callee := .builtin .len, args := as, argTypes }) (.lenC n) = true) {base : Nat} (h : runOp C base (.lenC n) args M K KP) : Outc C X w M E K KP ((execOp ρ o).run C.P w) := by
 simp only [okKind, Bool.and_eq_true, beq_iff_eq] at hok
 obtain ⟨⟨h1, h2⟩, hu⟩ := hok
 obtain ⟨t, rfl⟩ := Array.size_eq_one_iff.1 h1
 obtain ⟨x, rfl⟩ := Array.size_eq_one_iff.1 h2
 simp only [runOp] at h
 split at hu
 ·rename_i m e hun
  simp only [beq_iff_eq] at hu
  subst hu
  have hun' : C.P.underlying t = some (.array m e) := by simpa using hun
  have hrun : (execOp ρ o).run C.P w = .ok (.value (.int .i64 m)) w := by
   simp only [execOp, ho, resolve, invoke, builtin, Builtin.len_]
   cases hx : ρ x <;> simp [hx, run_underlying hun', goInt]
  rw [hrun]
  exact .same hS h (.d (.int _ _))
 ·cases hu
theorem case_minmax {ρ : Operand → Value} {o : Oper} {mx : Bool} {b : Builtin} {argTypes : Array TypeId} {as : Array Operand} (ho : o.op = .call { callee := .builtin b, args := as, argTypes }) (hb : (b = .max ∧ mx = true) ∨ (b = .min ∧ mx = false))
  {args : List PV} (hS : Sim C X w M E) (hA : RepP w (away X M E) M E (as.toList.map ρ) args)
  {base : Nat} (h : runOp C base (.minmax mx) args M K KP) : Outc C X w M E K KP ((execOp ρ o).run C.P w) := by
 simp only [runOp] at h
 split at h
 ·rename_i k x k' y
  obtain ⟨v, u, he, hr, hr2⟩ := repP_two hA
  have has : as.map ρ = #[v, u] := by apply Array.ext'; simpa using he
  have e1 := hr.toD.int_inv
  have e2 := hr2.toD.int_inv
  have hrun : (execOp ρ o).run C.P w = .ok (.value (.int k (bif mx then (if y > x then y else x) else (if y < x then y else x)))) w := by
   rcases hb with ⟨rfl, rfl⟩ | ⟨rfl, rfl⟩
   ·simp [execOp, ho, resolve, has, invoke, builtin, Builtin.max_, Builtin.max2, e1, e2]
   ·simp [execOp, ho, resolve, has, invoke, builtin, Builtin.min_, Builtin.min2, e1, e2]
  rw [hrun]
  exact .same hS h (.d (.int _ _))
 ·exact h.elim
theorem case_panic {ρ : Operand → Value} {o : Oper} {x : Operand} (ho : o.op = .panic x) {args : List PV} (hS : Sim C X w M E) (hA : RepP w (away X M E) M E ((opsOf o.op).map ρ) args)
  {base : Nat} (h : runOp C base .panic args M K KP) : Outc C X w M E K KP ((execOp ρ o).run C.P w) := by
 simp only [ho, opsOf, List.map_cons, List.map_nil] at hA
 simp only [runOp] at h
 split at h
 ·rename_i p
  obtain ⟨v, he, hr⟩ := repP_one hA
  simp only [List.cons.injEq, and_true] at he
  subst he
  split at h
  ·rename_i t d hd
   have hdd := datum_frz (ps := [p]) hS hr hd (by simp)
   have hrun : (execOp ρ o).run C.P w = .halt (.panic (ρ x)) w := by
    have : ∃ u, ρ x = .iface t u := by
     generalize hv : ρ x = v at hdd
     cases hdd; exact ⟨_, rfl⟩
    obtain ⟨u, hu⟩ := this
    simp [execOp, ho, hu, Instr.panic]
   rw [hrun]
   exact ⟨_, _, _, h, sim_frz hS [p], from_frz [p] w, hdd⟩
  ·exact h.elim
 ·exact h.elim
theorem optInt_vals {f : Bool} {l : List PV} {Q : Option Int → List PV → Prop} (h : optInt f l Q) {vs : List Value} (hv : RepP w O M E vs l) :
  ∃ a l' vs', Q a l' ∧ RepP w O M E vs' l' ∧ ((f = false ∧ a = none ∧ vs' = vs) ∨ ∃ k n, f = true ∧ a = some n ∧ vs = .int k n :: vs') := by
 unfold optInt at h
 split at h
 ·exact ⟨none, _, vs, h, hv, .inl ⟨rfl, rfl, rfl⟩⟩
 ·cases hv with
  | cons h1 h2 =>
   have := h1.toD.int_inv
   subst this
   exact ⟨some _, _, _, h, h2, .inr ⟨_, _, rfl, rfl, rfl⟩⟩
 ·exact h.elim
def BoundV (v : Option Value) (a : Option Int) : Prop := (v = none ∧ a = none) ∨ ∃ k n, v = some (.int k n) ∧ a = some n
theorem run_bounds {P : Program} {isSlice : Bool} {len cap : Nat} {lo hi mx : Option Value} {a b m : Option Int} (ha : BoundV lo a) (hb : BoundV hi b) (hm : BoundV mx m) (hmb : ∀ m', m = some m' → b = some m')
  (h0 : 0 ≤ a.getD 0) (h1 : a.getD 0 ≤ b.getD len) (h2 : b.getD len ≤ len) (h3 : len ≤ cap) (w : World) :
  (Instr.sliceBounds isSlice len cap lo hi mx).run P w = .ok ((a.getD 0).toNat, (b.getD len).toNat, (m.map Int.toNat).getD cap) w := by
 rcases ha with ⟨rfl, rfl⟩ | ⟨ka, na, rfl, rfl⟩ <;> rcases hb with ⟨rfl, rfl⟩ | ⟨kb, nb, rfl, rfl⟩ <;> rcases hm with ⟨rfl, rfl⟩ | ⟨km, nm, rfl, rfl⟩ <;>
  simp only [Option.getD_some, Option.getD_none] at h0 h1 h2 ⊢
 ·simp [Instr.sliceBounds]
 ·have := hmb _ rfl; cases this
 ·have e1 : nb ≤ (cap : Int) := by omega
  simp only [Instr.sliceBounds, Sem.run_bind, Sem.run_pure, Result.andThen_ok]
  rw [run_sliceBound w kb nb cap _ h1 e1]
  simp
 ·have := hmb _ rfl; cases this
  have e1 : nb ≤ (cap : Int) := by omega
  have e2 : nb ≤ (nb.toNat : Int) := by omega
  simp only [Instr.sliceBounds, Sem.run_bind, Sem.run_pure, Result.andThen_ok]
  rw [run_sliceBound w km nb cap _ h1 e1]
  simp only [Result.andThen_ok]
  rw [run_sliceBound w kb nb nb.toNat _ h1 e2]
  simp
 ·have e1 : na ≤ (len : Int) := h1
  simp only [Instr.sliceBounds, Sem.run_bind, Sem.run_pure, Result.andThen_ok]
  rw [run_sliceBound w ka na len _ h0 e1]
  simp
 ·have := hmb _ rfl; cases this
 ·have e1 : nb ≤ (cap : Int) := by omega
  have e0 : 0 ≤ nb := by omega
  have e2 : na ≤ (nb.toNat : Int) := by omega
  simp only [Instr.sliceBounds, Sem.run_bind, Sem.run_pure, Result.andThen_ok]
  rw [run_sliceBound w kb nb cap _ e0 e1]
  simp only [Result.andThen_ok]
  rw [run_sliceBound w ka na nb.toNat _ h0 e2]
  simp
 ·have := hmb _ rfl; cases this
  have e1 : nb ≤ (cap : Int) := by omega
  have e0 : 0 ≤ nb := by omega
  have e2 : nb ≤ (nb.toNat : Int) := by omega
  have e3 : na ≤ (nb.toNat : Int) := by omega
  simp only [Instr.sliceBounds, Sem.run_bind, Sem.run_pure, Result.andThen_ok]
  rw [run_sliceBound w km nb cap _ e0 e1]
  simp only [Result.andThen_ok]
  rw [run_sliceBound w kb nb nb.toNat _ e0 e2]
  simp only [Result.andThen_ok]
  rw [run_sliceBound w ka na nb.toNat _ h0 e3]
  simp
theorem bounds_of {lo hi mx : Bool} {l : List PV} {Q : Option Int → Option Int → Option Int → Prop}
  (h : optInt lo l fun a l => optInt hi l fun b l => optInt mx l fun m l => l = [] ∧ Q a b m) {ρ : Operand → Value} {olo ohi omx : Option Operand} (h1 : olo.isSome = lo) (h2 : ohi.isSome = hi) (h3 : omx.isSome = mx)
  (hv : RepP w O M E ((olo.toList ++ ohi.toList ++ omx.toList).map ρ) l) : ∃ a b m, Q a b m ∧ BoundV (olo.map ρ) a ∧ BoundV (ohi.map ρ) b ∧ BoundV (omx.map ρ) m := by
 obtain ⟨a, l1, v1, g1, r1, c1⟩ := optInt_vals h hv
 obtain ⟨b, l2, v2, g2, r2, c2⟩ := optInt_vals g1 r1
 obtain ⟨m, l3, v3, ⟨g3, g4⟩, r3, c3⟩ := optInt_vals g2 r2
 refine ⟨a, b, m, g4, ?_⟩
 subst h1 h2 h3
 cases olo <;> cases ohi <;> cases omx <;> simp at c1 c2 c3 <;> simp [BoundV] <;> grind
end
end Go.Am
