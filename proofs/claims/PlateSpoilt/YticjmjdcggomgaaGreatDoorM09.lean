/-
  Part 9 of the proof of a law of plates: an abstract machine over the model, contracts of functions, plain laws.
  Conditions: none.
-/
import Derived.Test.YticjmjdcggomgaaGreatDoorM08
set_option linter.all false
namespace Go.Am
section
variable {C : Ctx} {base : Nat}
def Angel (C : Ctx) (base : Nat) (op : POp) (args : List PV) (R : Mem → PV → Mem → Prop) : Prop := ∀ M K KP, runOp C base op args M K KP ↔ ∃ v M', R M v M' ∧ K v M'
theorem p_intro {op : POp} {args : List PV} {V : PV → Prop} (h : ∀ M K KP, runOp C base op args M K KP ↔ ∃ v, V v ∧ K v M) : ∃ R, Spec base .p R ∧ Angel C base op args R := by
 refine ⟨fun M v M' => V v ∧ M' = M, ⟨V, fun _ _ _ => Iff.rfl⟩, fun M K KP => (h M K KP).trans ?_⟩
 constructor
 ·rintro ⟨v, h1, h2⟩; exact ⟨v, M, ⟨h1, rfl⟩, h2⟩
 ·rintro ⟨v, M', ⟨h1, rfl⟩, h2⟩; exact ⟨v, h1, h2⟩
theorem r_intro {op : POp} {args : List PV} {V : Mem → PV → Prop} (h : ∀ M K KP, runOp C base op args M K KP ↔ ∃ v, V M v ∧ K v M) : Angel C base op args (fun M v M' => V M v ∧ M' = M) := by
 intro M K KP
 refine (h M K KP).trans ?_
 constructor
 ·rintro ⟨v, h1, h2⟩; exact ⟨v, M, ⟨h1, rfl⟩, h2⟩
 ·rintro ⟨v, M', ⟨h1, rfl⟩, h2⟩; exact ⟨v, h1, h2⟩
theorem binInt_iff {op : BinOp} {k : IntKind} {a b : Int} {K : DV → Prop} : binInt op k a b K ↔ ∃ d, binInt op k a b (fun u => d = u) ∧ K d := by
 cases op <;> simp [binInt, and_assoc]
theorem binStr_iff {op : BinOp} {a b : ByteArray} {K : DV → Prop} : binStr op a b K ↔ ∃ d, binStr op a b (fun u => d = u) ∧ K d := by
 cases op <;> simp [binStr, and_assoc]
theorem binDV_iff {op : BinOp} {x y : PV} {K : DV → Prop} : binDV op x y K ↔ ∃ d, binDV op x y (fun u => d = u) ∧ K d := by
 unfold binDV
 split
 ·rw [binInt_iff]
  constructor
  ·rintro ⟨h, d, h1, h2⟩; exact ⟨d, ⟨h, h1⟩, h2⟩
  ·rintro ⟨d, ⟨h, h1⟩, h2⟩; exact ⟨h, d, h1, h2⟩
 ·exact binStr_iff
 ·simp
theorem unDV_iff {op : UnOp} {x : PV} {K : DV → Prop} : unDV op x K ↔ ∃ d, unDV op x (fun u => d = u) ∧ K d := by
 unfold unDV
 split <;> simp
theorem data_args : ∀ {args : List PV}, args.all PV.isD = true → ∃ ds : List DV, args = ds.map .d
 | [], _ => ⟨[], rfl⟩
 | .d x :: l, h => by
  simp only [List.all_cons, Bool.and_eq_true] at h
  obtain ⟨ds, rfl⟩ := data_args h.2
  exact ⟨x :: ds, rfl⟩
 | .ptr _ _ :: _, h | .eptr _ _ _ _ :: _, h | .tsl _ _ _ :: _, h | .func _ _ _ :: _, h | .agg _ :: _, h | .tup _ :: _, h | .dead :: _, h => by simp [PV.isD] at h
theorem datumL_d {M : Mem} : ∀ {ds : List DV}, datumL M (ds.map .d) = some ds
 | [] => rfl
 | d :: ds => by simp only [List.map_cons, datumL, datum, datumL_d]
theorem frz_d {M : Mem} {ds : List DV} : M.frz (ds.map .d) = M := by
 have h1 : ∀ ds : List DV, (ds.map PV.d).flatMap (refsB M) = [] := by
  intro ds; induction ds with
  | nil => rfl
  | cons d ds ih => simp [refsB]
 have h2 : ∀ ds : List DV, (ds.map PV.d).flatMap (refsA M) = [] := by
  intro ds; induction ds with
  | nil => rfl
  | cons d ds ih => simp [refsA]
 simp only [Mem.frz, h1, h2, frzA, List.foldl_nil, List.nil_append]
theorem agree_box {M M' : Mem} {b : Nat} (h : M.boxes[b]? = M'.boxes[b]?) : M.box b = M'.box b := by simp [Mem.box, h]
theorem agree_row {M M' : Mem} (h : M.arrs = M'.arrs) (k ver : Nat) : M.row k ver = M'.row k ver := by simp [Mem.row, h]
theorem load_iff {agg : Bool} {n : Nat} {x : PV} {M : Mem} {K : PV → Prop} : runLoad agg n x M K ↔ ∃ v, runLoad agg n x M (fun u => v = u) ∧ K v := by
 unfold runLoad
 repeat' split
 all_goals simp [and_assoc]
theorem loadP_iff {agg : Bool} {n : Nat} {x : PV} {M : Mem} {K : PV → Prop} : runLoadP agg n x M K ↔ ∃ v, runLoadP agg n x M (fun u => v = u) ∧ K v := by
 unfold runLoadP
 repeat' split
 all_goals simp [and_assoc]
theorem fld_iff {off : Nat} {x : PV} {M : Mem} {K : PV → Prop} : runFld off x M K ↔ ∃ v, runFld off x M (fun u => v = u) ∧ K v := by
 unfold runFld
 repeat' split
 all_goals simp [and_assoc]
theorem idxA_iff {sz : Nat} {x i : PV} {M : Mem} {K : PV → Prop} : runIdxA sz x i M K ↔ ∃ v, runIdxA sz x i M (fun u => v = u) ∧ K v := by
 unfold runIdxA
 repeat' split
 all_goals simp [and_assoc]
theorem len_iff {x : PV} {M : Mem} {K : Int → Prop} : runLen x M K ↔ ∃ v, runLen x M (fun u => v = u) ∧ K v := by
 unfold runLen
 repeat' split
 all_goals simp
theorem load_arrs {agg : Bool} {n : Nat} {k ver i off : Nat} {M M' : Mem} (h : M.arrs = M'.arrs) {K : PV → Prop} (hh : runLoad agg n (.eptr k ver i off) M K) : runLoad agg n (.eptr k ver i off) M' K := by
 simp only [runLoad, agree_row h] at hh ⊢; exact hh
theorem load_more {agg : Bool} {n : Nat} {x : PV} {M M' : Mem} (hb : ∀ (b : Nat) (cs : List PV), M.boxes[b]? = some (some cs) → M'.boxes[b]? = some (some cs)) (h : M.arrs = M'.arrs) {K : PV → Prop} (hh : runLoad agg n x M K) : runLoad agg n x M' K := by
 cases x with
 | ptr b off =>
  simp only [runLoad] at hh ⊢
  split at hh
  ·rename_i cs hcs
   have : M'.box b = some cs := by simp [Mem.box, hb _ _ (box_eq hcs)]
   rw [this]; exact hh
  ·exact hh.elim
 | eptr k ver i off => exact load_arrs h hh
 | d y => cases y <;> exact hh
 | _ => exact hh
theorem loadP_more {agg : Bool} {n : Nat} {x : PV} {M M' : Mem} (hb : ∀ (b : Nat) (cs : List PV), M.boxes[b]? = some (some cs) → M'.boxes[b]? = some (some cs)) {K : PV → Prop} (hh : runLoadP agg n x M K) : runLoadP agg n x M' K := by
 cases x with
 | ptr b off =>
  simp only [runLoadP] at hh ⊢
  split at hh
  ·rename_i cs hcs
   have : M'.box b = some cs := by simp [Mem.box, hb _ _ (box_eq hcs)]
   rw [this]; exact hh
  ·exact hh.elim
 | d y => cases y <;> exact hh
 | _ => exact hh
theorem optInt_mono' {f : Bool} {l : List PV} {K K' : Option Int → List PV → Prop} (hk : ∀ a l, K a l → K' a l) (h : optInt f l K) : optInt f l K' := by
 unfold optInt at h ⊢
 split at h
 ·exact hk _ _ h
 ·exact hk _ _ h
 ·exact h.elim
theorem optInt_ex {f : Bool} {l : List PV} {K : Option Int → List PV → Prop} (h : optInt f l K) : ∃ a l', optInt f l (fun a' l'' => a' = a ∧ l'' = l') ∧ K a l' := by
 unfold optInt at h ⊢
 split at h
 ·exact ⟨_, _, ⟨rfl, rfl⟩, h⟩
 ·exact ⟨_, _, ⟨rfl, rfl⟩, h⟩
 ·exact h.elim
theorem bounds_ex {lo hi mx : Bool} {l : List PV} {Q : Option Int → Option Int → Option Int → Prop} (h : optInt lo l fun a l => optInt hi l fun b l => optInt mx l fun m l => l = [] ∧ Q a b m) :
  ∃ a b m, (optInt lo l fun a' l => optInt hi l fun b' l => optInt mx l fun m' l => l = [] ∧ a' = a ∧ b' = b ∧ m' = m) ∧ Q a b m := by
 obtain ⟨a, l1, h1, h2⟩ := optInt_ex h
 obtain ⟨b, l2, h3, h4⟩ := optInt_ex h2
 obtain ⟨m, l3, h5, h6, hQ⟩ := optInt_ex h4
 refine ⟨a, b, m, optInt_mono' ?_ h1, hQ⟩
 rintro _ _ ⟨rfl, rfl⟩
 refine optInt_mono' ?_ h3
 rintro _ _ ⟨rfl, rfl⟩
 refine optInt_mono' ?_ h5
 rintro _ _ ⟨rfl, rfl⟩
 exact ⟨h6, rfl, rfl, rfl⟩
theorem bounds_mk {lo hi mx : Bool} {l : List PV} {Q : Option Int → Option Int → Option Int → Prop} {a b m : Option Int} (h : optInt lo l fun a' l => optInt hi l fun b' l => optInt mx l fun m' l => l = [] ∧ a' = a ∧ b' = b ∧ m' = m) (hQ : Q a b m) :
  optInt lo l fun a l => optInt hi l fun b l => optInt mx l fun m l => l = [] ∧ Q a b m :=
 optInt_mono' (fun _ _ => optInt_mono' fun _ _ => optInt_mono' fun _ _ hh => ⟨hh.1, by rw [hh.2.1, hh.2.2.1, hh.2.2.2]; exact hQ⟩) h
theorem spec_p {op : POp} {fl : Nat} {args : List PV} (h : kd op fl = .p) (hf : flOK base fl args) : ∃ V : PV → Prop, ∀ M K KP, runOp C base op args M K KP ↔ ∃ v, V v ∧ K v M := by
 have one : ∀ {p : Prop} [Decidable p] {x y z : Kd}, (if p then x else y) = z → y ≠ z → p := by
  intro p _ x y z h hn; by_cases hp : p
  ·exact hp
  ·rw [if_neg hp] at h; exact absurd h hn
 cases op with
 | mov => refine ⟨fun v => runOp C base .mov args noMem (fun u _ => v = u) (fun _ _ => False), fun M K KP => ?_⟩; simp only [runOp]; split <;> simp
 | pick => refine ⟨fun v => runOp C base .pick args noMem (fun u _ => v = u) (fun _ _ => False), fun M K KP => ?_⟩; simp only [runOp]; split <;> simp
 | build zs ps => refine ⟨fun v => runOp C base (.build zs ps) args noMem (fun u _ => v = u) (fun _ _ => False), fun M K KP => ?_⟩; simp only [runOp]; cases fillC (zs.map .d) ps args <;> simp
 | nilck => refine ⟨fun v => runOp C base .nilck args noMem (fun u _ => v = u) (fun _ _ => False), fun M K KP => ?_⟩; simp only [runOp]; split <;> simp
 | bin op =>
  refine ⟨fun v => runOp C base (.bin op) args noMem (fun u _ => v = u) (fun _ _ => False), fun M K KP => ?_⟩; simp only [runOp]
  split
  ·rw [binDV_iff]
   constructor
   ·rintro ⟨d, h1, h2⟩; exact ⟨.d d, binDV_iff.2 ⟨d, h1, rfl⟩, h2⟩
   ·rintro ⟨v, h1, h2⟩
    obtain ⟨d, g1, rfl⟩ := binDV_iff.1 h1
    exact ⟨d, g1, h2⟩
  ·simp
 | binA neq ks =>
  refine ⟨fun v => runOp C base (.binA neq ks) args noMem (fun u _ => v = u) (fun _ _ => False), fun M K KP => ?_⟩; simp only [runOp]
  split
  ·rename_i a b; cases cellsEq ks a b <;> simp
  ·simp
 | shf op => refine ⟨fun v => runOp C base (.shf op) args noMem (fun u _ => v = u) (fun _ _ => False), fun M K KP => ?_⟩; simp only [runOp]; split <;> (try simp); cases op <;> simp [and_assoc]
 | binB neq => refine ⟨fun v => runOp C base (.binB neq) args noMem (fun u _ => v = u) (fun _ _ => False), fun M K KP => ?_⟩; simp only [runOp]; split <;> simp
 | un op =>
  refine ⟨fun v => runOp C base (.un op) args noMem (fun u _ => v = u) (fun _ _ => False), fun M K KP => ?_⟩; simp only [runOp]
  split
  ·rw [unDV_iff]
   constructor
   ·rintro ⟨d, h1, h2⟩; exact ⟨.d d, unDV_iff.2 ⟨d, h1, rfl⟩, h2⟩
   ·rintro ⟨v, h1, h2⟩
    obtain ⟨d, g1, rfl⟩ := unDV_iff.1 h1
    exact ⟨d, g1, h2⟩
  ·simp
 | conv k => refine ⟨fun v => runOp C base (.conv k) args noMem (fun u _ => v = u) (fun _ _ => False), fun M K KP => ?_⟩; simp only [runOp]; split <;> simp
 | mkF fn nf => refine ⟨fun v => runOp C base (.mkF fn nf) args noMem (fun u _ => v = u) (fun _ _ => False), fun M K KP => ?_⟩; simp only [runOp]; cases allD args <;> simp
 | fldv agg off n => refine ⟨fun v => runOp C base (.fldv agg off n) args noMem (fun u _ => v = u) (fun _ _ => False), fun M K KP => ?_⟩; simp only [runOp]; split <;> simp [and_assoc]
 | idxS => refine ⟨fun v => runOp C base .idxS args noMem (fun u _ => v = u) (fun _ _ => False), fun M K KP => ?_⟩; simp only [runOp]; split <;> simp [and_assoc]
 | idxV agg sz len => refine ⟨fun v => runOp C base (.idxV agg sz len) args noMem (fun u _ => v = u) (fun _ _ => False), fun M K KP => ?_⟩; simp only [runOp]; split <;> simp [and_assoc]
 | ext i =>
  refine ⟨fun v => runOp C base (.ext i) args noMem (fun u _ => v = u) (fun _ _ => False), fun M K KP => ?_⟩; simp only [runOp]
  split
  ·rename_i vs; cases vs[i]? <;> simp
  ·rename_i vs; cases vs[i]? <;> simp
  ·simp
 | lenS => refine ⟨fun v => runOp C base .lenS args noMem (fun u _ => v = u) (fun _ _ => False), fun M K KP => ?_⟩; simp only [runOp]; split <;> simp
 | lenC n => refine ⟨fun v => runOp C base (.lenC n) args noMem (fun u _ => v = u) (fun _ _ => False), fun M K KP => ?_⟩; simp only [runOp]; simp
 | minmax mx => refine ⟨fun v => runOp C base (.minmax mx) args noMem (fun u _ => v = u) (fun _ _ => False), fun M K KP => ?_⟩; simp only [runOp]; split <;> simp
 | mlook ks z =>
  refine ⟨fun v => runOp C base (.mlook ks z) args noMem (fun u _ => v = u) (fun _ _ => False), fun M K KP => ?_⟩; simp only [runOp]
  split
  ·rename_i l k
   cases cellsEq ks k k with
   | none => simp
   | some b => cases b <;> cases mlookL ks l k <;> simp
  ·simp
 | tas t z => refine ⟨fun v => runOp C base (.tas t z) args noMem (fun u _ => v = u) (fun _ _ => False), fun M K KP => ?_⟩; simp only [runOp]; split <;> simp
 | load agg n =>
  simp only [kd] at h
  have hfl : fl = 1 := by
   refine one h ?_; split
   ·decide
   ·split <;> decide
  subst hfl
  obtain ⟨ds, rfl⟩ := data_args (args := args) hf
  refine ⟨fun v => runOp C base (.load agg n) (ds.map .d) noMem (fun u _ => v = u) (fun _ _ => False), fun M K KP => ?_⟩
  simp only [runOp]
  rcases ds with _ | ⟨x, _ | ⟨y, l⟩⟩
  ·simp
  ·simp only [List.map_cons, List.map_nil]; cases x <;> simp [runLoad, and_assoc]
  ·simp
 | loadP agg n =>
  simp only [kd] at h
  have hfl : fl = 1 := by
   refine one h ?_; split <;> decide
  subst hfl
  obtain ⟨ds, rfl⟩ := data_args (args := args) hf
  refine ⟨fun v => runOp C base (.loadP agg n) (ds.map .d) noMem (fun u _ => v = u) (fun _ _ => False), fun M K KP => ?_⟩
  simp only [runOp]
  rcases ds with _ | ⟨x, _ | ⟨y, l⟩⟩
  ·simp
  ·simp only [List.map_cons, List.map_nil]; cases x <;> simp [runLoadP, and_assoc]
  ·simp
 | fld off =>
  have hfl : fl = 1 ∨ fl = 2 := by
   simp only [kd] at h
   by_cases h1 : fl = 1
   ·exact .inl h1
   ·by_cases h2 : fl = 2
    ·exact .inr h2
    ·rw [if_neg h1, if_neg h2] at h
     split at h <;> cases h
  have hcase : (∃ ds : List DV, args = ds.map .d) ∨ (∃ b o t, args = .ptr b o :: t) ∨ (∃ x t, args = .d x :: t) := by
   rcases hfl with rfl | rfl
   ·exact .inl (data_args hf)
   ·simp only [flOK] at hf
    split at hf
    ·exact .inr (.inl ⟨_, _, _, rfl⟩)
    ·exact .inr (.inr ⟨_, _, rfl⟩)
    ·exact hf.elim
  refine ⟨fun v => runOp C base (.fld off) args noMem (fun u _ => v = u) (fun _ _ => False), fun M K KP => ?_⟩
  rcases hcase with ⟨ds, rfl⟩ | ⟨b, o, t, rfl⟩ | ⟨x, t, rfl⟩
  ·simp only [runOp]
   rcases ds with _ | ⟨x, _ | ⟨y, l⟩⟩
   ·simp
   ·simp only [List.map_cons, List.map_nil]; cases x <;> simp [runFld, and_assoc]
   ·simp
  ·simp only [runOp]
   cases t <;> simp [runFld]
  ·simp only [runOp]
   cases t <;> cases x <;> simp [runFld, and_assoc]
 | idxA sz =>
  simp only [kd] at h
  have hfl : fl = 1 := one h (by decide)
  subst hfl
  obtain ⟨ds, rfl⟩ := data_args (args := args) hf
  refine ⟨fun v => runOp C base (.idxA sz) (ds.map .d) noMem (fun u _ => v = u) (fun _ _ => False), fun M K KP => ?_⟩
  simp only [runOp]
  rcases ds with _ | ⟨x, _ | ⟨y, _ | ⟨z, l⟩⟩⟩
  ·simp
  ·simp
  ·simp only [List.map_cons, List.map_nil]; cases x <;> cases y <;> simp [runIdxA, and_assoc]
  ·simp
 | len =>
  simp only [kd] at h
  have hfl : fl = 1 := one h (by decide)
  subst hfl
  obtain ⟨ds, rfl⟩ := data_args (args := args) hf
  refine ⟨fun v => runOp C base .len (ds.map .d) noMem (fun u _ => v = u) (fun _ _ => False), fun M K KP => ?_⟩
  simp only [runOp]
  rcases ds with _ | ⟨x, _ | ⟨y, l⟩⟩
  ·simp
  ·simp only [List.map_cons, List.map_nil]; cases x <;> simp [runLen]
  ·simp
 | mkSl sz zs is =>
  simp only [kd] at h
  have hfl : fl = 1 := one h (by decide)
  subst hfl
  obtain ⟨ds, rfl⟩ := data_args (args := args) hf
  refine ⟨fun v => runOp C base (.mkSl sz zs is) (ds.map .d) noMem (fun u _ => v = u) (fun _ _ => False), fun M K KP => ?_⟩
  simp only [runOp, datumL_d, frz_d]
  cases fillS sz zs is (ds.map DV.strip) <;> simp
 | mkI t =>
  simp only [kd] at h
  have hfl : fl = 1 := one h (by decide)
  subst hfl
  obtain ⟨ds, rfl⟩ := data_args (args := args) hf
  refine ⟨fun v => runOp C base (.mkI t) (ds.map .d) noMem (fun u _ => v = u) (fun _ _ => False), fun M K KP => ?_⟩
  simp only [runOp]
  rcases ds with _ | ⟨x, _ | ⟨y, l⟩⟩
  ·simp
  ·have := fun M : Mem => frz_d (M := M) (ds := [x])
   simp only [List.map_cons, List.map_nil] at this
   simp only [List.map_cons, List.map_nil, datum, this]; simp
  ·simp
 | slcD sz lo hi mx =>
  simp only [kd] at h
  have hfl : fl = 1 := one h (by decide)
  subst hfl
  obtain ⟨ds, rfl⟩ := data_args (args := args) hf
  refine ⟨fun v => runOp C base (.slcD sz lo hi mx) (ds.map .d) noMem (fun u _ => v = u) (fun _ _ => False), fun M K KP => ?_⟩
  simp only [runOp]
  rcases ds with _ | ⟨x, l⟩
  ·simp [runSlcD]
  ·simp only [List.map_cons]
   cases x with
   | slice ex xs =>
    simp only [runSlcD]
    constructor
    ·intro hh
     obtain ⟨a, b, m, g1, g2, g3, g4, g5, g6, g7⟩ := bounds_ex hh
     exact ⟨_, bounds_mk g1 ⟨g2, g3, g4, g5, g6, rfl⟩, g7⟩
    ·rintro ⟨v, h1, h2⟩
     obtain ⟨a, b, m, g1, g2, g3, g4, g5, g6, rfl⟩ := bounds_ex h1
     exact bounds_mk g1 ⟨g2, g3, g4, g5, g6, h2⟩
   | _ => simp [runSlcD]
 | pcallD f =>
  refine ⟨fun v => runOp C base (.pcallD f) args noMem (fun u _ => v = u) (fun _ _ => False), fun M K KP => ?_⟩
  simp only [runOp, runPureD]
  constructor
  ·rintro ⟨ds, h0, x, h1, h2⟩; exact ⟨.d x, ⟨ds, h0, x, h1, rfl⟩, h2⟩
  ·rintro ⟨v, ⟨ds, h0, x, h1, rfl⟩, h2⟩; exact ⟨ds, h0, x, h1, h2⟩
 | store n =>
  simp only [kd] at h
  split at h <;> cases h
 | pcall f =>
  simp only [kd] at h
  split at h <;> cases h
 | _ => simp [kd] at h
theorem spec_of {op : POp} {fl : Nat} {args : List PV} (h : kd op fl ≠ .x) (hf : flOK base fl args) : ∃ R, Spec base (kd op fl) R ∧ Angel C base op args R := by
 by_cases hp : kd op fl = .p
 ·rw [hp]
  obtain ⟨V, hV⟩ := spec_p (C := C) hp hf
  exact p_intro hV
 ·cases op with
  | load agg n =>
   have hA : Angel C base (.load agg n) args (fun M v M' => (runOp C base (.load agg n) args M (fun u _ => v = u) (fun _ _ => False)) ∧ M' = M) := r_intro fun M K KP => by
    simp only [runOp]
    split
    ·exact load_iff
    ·simp
   refine ⟨_, ?_, hA⟩
   simp only [kd] at hp ⊢
   have h1 : fl ≠ 1 := fun e => hp (by simp [e])
   rw [if_neg h1]
   by_cases h2 : fl = 2
   ·rw [if_pos h2]
    subst h2
    refine ⟨_, fun _ _ _ => Iff.rfl, fun M M' v hag hv => ?_⟩
    simp only [runOp] at hv ⊢
    simp only [flOK] at hf
    split at hf
    ·rename_i b o t
     cases t with
     | nil => simp only [runLoad] at hv ⊢; rw [← agree_box (hag b hf)]; exact hv
     | cons => exact hv
    ·rename_i x t
     cases t with
     | nil => cases x <;> exact hv
     | cons => exact hv
    ·exact hf.elim
   ·rw [if_neg h2]
    by_cases h3 : fl = 3
    ·rw [if_pos h3]
     subst h3
     refine ⟨_, fun _ _ _ => Iff.rfl, fun M M' v hag hv => ?_⟩
     simp only [runOp] at hv ⊢
     simp only [flOK] at hf
     split at hf
     ·rename_i t
      cases t with
      | nil => exact load_arrs hag hv
      | cons => exact hv
     ·exact hf.elim
    ·rw [if_neg h3]
     refine ⟨_, fun _ _ _ => Iff.rfl, fun M M' v hb ha hv => ?_⟩
     simp only [runOp] at hv ⊢
     split at hv
     ·exact load_more hb ha hv
     ·exact hv.elim
  | loadP agg n =>
   have hA : Angel C base (.loadP agg n) args (fun M v M' => (runOp C base (.loadP agg n) args M (fun u _ => v = u) (fun _ _ => False)) ∧ M' = M) := r_intro fun M K KP => by
    simp only [runOp]
    split
    ·exact loadP_iff
    ·simp
   refine ⟨_, ?_, hA⟩
   simp only [kd] at hp ⊢
   have h1 : fl ≠ 1 := fun e => hp (by simp [e])
   rw [if_neg h1]
   by_cases h2 : fl = 2
   ·rw [if_pos h2]
    subst h2
    refine ⟨_, fun _ _ _ => Iff.rfl, fun M M' v hag hv => ?_⟩
    simp only [runOp] at hv ⊢
    simp only [flOK] at hf
    split at hf
    ·rename_i b o t
     cases t with
     | nil => simp only [runLoadP] at hv ⊢; rw [← agree_box (hag b hf)]; exact hv
     | cons => exact hv
    ·rename_i x t
     cases t with
     | nil => cases x <;> exact hv
     | cons => exact hv
    ·exact hf.elim
   ·rw [if_neg h2]
    refine ⟨_, fun _ _ _ => Iff.rfl, fun M M' v hb ha hv => ?_⟩
    simp only [runOp] at hv ⊢
    split at hv
    ·exact loadP_more hb hv
    ·exact hv.elim
  | fld off =>
   have hA : Angel C base (.fld off) args (fun M v M' => (runOp C base (.fld off) args M (fun u _ => v = u) (fun _ _ => False)) ∧ M' = M) := r_intro fun M K KP => by
    simp only [runOp]
    split
    ·exact fld_iff
    ·simp
   have hrow : ∀ {M M' : Mem}, M.arrs = M'.arrs → ∀ {x : PV} {K : PV → Prop}, runFld off x M K → runFld off x M' K := by
    intro M M' ha x K hh
    cases x with
    | eptr k ver i o => simp only [runFld, agree_row ha] at hh ⊢; exact hh
    | d x => cases x <;> exact hh
    | _ => exact hh
   refine ⟨_, ?_, hA⟩
   simp only [kd] at hp ⊢
   have h1 : fl ≠ 1 := fun e => hp (by simp [e])
   have h2 : fl ≠ 2 := fun e => hp (by simp [e])
   rw [if_neg h1, if_neg h2]
   by_cases h3 : fl = 3
   ·rw [if_pos h3]
    refine ⟨_, fun _ _ _ => Iff.rfl, fun M M' v hag hv => ?_⟩
    simp only [runOp] at hv ⊢
    split at hv
    ·exact hrow hag hv
    ·exact hv.elim
   ·rw [if_neg h3]
    refine ⟨_, fun _ _ _ => Iff.rfl, fun M M' v hb ha hv => ?_⟩
    simp only [runOp] at hv ⊢
    split at hv
    ·exact hrow ha hv
    ·exact hv.elim
  | idxA sz =>
   have hA : Angel C base (.idxA sz) args (fun M v M' => (runOp C base (.idxA sz) args M (fun u _ => v = u) (fun _ _ => False)) ∧ M' = M) := r_intro fun M K KP => by
    simp only [runOp]
    split
    ·exact idxA_iff
    ·simp
   refine ⟨_, ?_, hA⟩
   simp only [kd] at hp ⊢
   have h1 : fl ≠ 1 := fun e => hp (by simp [e])
   rw [if_neg h1]
   refine ⟨_, fun _ _ _ => Iff.rfl, fun M M' v hag hv => ?_⟩
   simp only [runOp] at hv ⊢
   split at hv
   ·simp only [runIdxA, agree_row hag] at hv ⊢; exact hv
   ·exact hv.elim
  | len =>
   have hA : Angel C base .len args (fun M v M' => (runOp C base .len args M (fun u _ => v = u) (fun _ _ => False)) ∧ M' = M) := r_intro fun M K KP => by
    simp only [runOp]
    split
    ·rw [len_iff]
     constructor
     ·rintro ⟨n, h1, h2⟩; exact ⟨_, len_iff.2 ⟨n, h1, rfl⟩, h2⟩
     ·rintro ⟨v, h1, h2⟩
      obtain ⟨n, g1, rfl⟩ := len_iff.1 h1
      exact ⟨n, g1, h2⟩
    ·simp
   refine ⟨_, ?_, hA⟩
   simp only [kd] at hp ⊢
   have h1 : fl ≠ 1 := fun e => hp (by simp [e])
   rw [if_neg h1]
   refine ⟨_, fun _ _ _ => Iff.rfl, fun M M' v hag hv => ?_⟩
   simp only [runOp] at hv ⊢
   split at hv
   ·simp only [runLen, agree_row hag] at hv ⊢; exact hv
   ·exact hv.elim
  | slcP sz =>
   have hA : Angel C base (.slcP sz) args (fun M v M' => (runOp C base (.slcP sz) args M (fun u _ => v = u) (fun _ _ => False)) ∧ M' = M) := r_intro fun M K KP => by
    simp only [runOp]
    split
    ·rename_i k ver skip kk n
     cases M.row k ver with
     | none => simp
     | some A => simp [and_assoc]
    ·simp
   refine ⟨_, ?_, hA⟩
   simp only [kd]
   refine ⟨_, fun _ _ _ => Iff.rfl, fun M M' v hag hv => ?_⟩
   simp only [runOp] at hv ⊢
   split at hv
   ·simp only [agree_row hag] at hv ⊢; exact hv
   ·exact hv.elim
  | slcL sz =>
   have hA : Angel C base (.slcL sz) args (fun M v M' => (runOp C base (.slcL sz) args M (fun u _ => v = u) (fun _ _ => False)) ∧ M' = M) := r_intro fun M K KP => by
    simp only [runOp]
    split
    ·rename_i k ver skip kk n
     cases M.row k ver with
     | none => simp
     | some A => simp [and_assoc]
    ·simp
   refine ⟨_, ?_, hA⟩
   simp only [kd]
   refine ⟨_, fun _ _ _ => Iff.rfl, fun M M' v hag hv => ?_⟩
   simp only [runOp] at hv ⊢
   split at hv
   ·simp only [agree_row hag] at hv ⊢; exact hv
   ·exact hv.elim
  | alloc i zs =>
   cases args with
   | nil =>
    refine ⟨_, ⟨zs.map .d, .ptr (base + i) 0, True, fun _ _ _ => Iff.rfl⟩, fun M K KP => ?_⟩
    simp only [runOp]
    constructor
    ·rintro ⟨h1, h2⟩; exact ⟨_, _, ⟨trivial, rfl, h1, rfl⟩, h2⟩
    ·rintro ⟨v, M', ⟨_, rfl, h1, rfl⟩, h2⟩; exact ⟨h1, h2⟩
   | cons x l =>
    refine ⟨_, ⟨[], .dead, False, fun _ _ _ => Iff.rfl⟩, fun M K KP => ?_⟩
    simp [runOp]
  | box i =>
   have hbad : (∀ M K KP, ¬ runOp C base (.box i) args M K KP) → ∃ R, Spec base (kd (.box i) fl) R ∧ Angel C base (.box i) args R := fun hn =>
    ⟨_, ⟨[], .dead, False, fun _ _ _ => Iff.rfl⟩, fun M K KP => ⟨fun hh => (hn _ _ _ hh).elim, by rintro ⟨_, _, ⟨hh, _⟩, _⟩; exact hh.elim⟩⟩
   rcases args with _ | ⟨x, _ | ⟨y, l⟩⟩
   ·exact hbad fun M K KP hh => by simp [runOp] at hh
   ·refine ⟨_, ⟨x.cells, .ptr (base + i) 0, x.isDead = false, fun _ _ _ => Iff.rfl⟩, fun M K KP => ?_⟩
    simp only [runOp]
    constructor
    ·rintro ⟨h0, h1, h2⟩; exact ⟨_, _, ⟨h0, rfl, h1, rfl⟩, h2⟩
    ·rintro ⟨v, M', ⟨h0, rfl, h1, rfl⟩, h2⟩; exact ⟨h0, h1, h2⟩
   ·exact hbad fun M K KP hh => by simp [runOp] at hh
  | store n =>
   have hx : fl = 3 ∨ fl = 2 ∨ (∃ i, fl = i + 4) ∨ kd (.store n) fl = .w := by
    simp only [kd]
    split
    ·exact .inl rfl
    ·exact .inr (.inl rfl)
    ·exact .inr (.inr (.inl ⟨_, rfl⟩))
    ·exact .inr (.inr (.inr rfl))
   rcases hx with rfl | rfl | ⟨i, rfl⟩ | hw
   ·simp only [flOK] at hf
    split at hf
    ·rename_i k ver j off t
     refine ⟨fun M v M' => ∃ as', runOp C base (.store n) (.eptr k ver j off :: t) ⟨[], [], M.arrs⟩ (fun u M'' => v = u ∧ as' = M''.arrs) (fun _ _ => False) ∧ M' = { M with arrs := as' },
      ⟨fun arrs v as' => runOp C base (.store n) (.eptr k ver j off :: t) ⟨[], [], arrs⟩ (fun u M'' => v = u ∧ as' = M''.arrs) (fun _ _ => False), fun _ _ _ => Iff.rfl⟩, fun M K KP => ?_⟩
     rcases t with _ | ⟨y, _ | ⟨z, l⟩⟩
     ·simp [runOp]
     ·have hrow : (⟨[], [], M.arrs⟩ : Mem).row k ver = M.row k ver := rfl
      simp only [runOp, runStore, hrow]
      cases hr : M.row k ver with
      | none => simp
      | some A =>
       cases hd : allD y.cells with
       | none => simp
       | some ds =>
        simp only
        constructor
        ·rintro ⟨h1, h2, h3, h4, h5, h6⟩; exact ⟨_, _, ⟨_, ⟨h1, h2, h3, h4, h5, rfl, rfl⟩, rfl⟩, h6⟩
        ·rintro ⟨v, M', ⟨as', ⟨h1, h2, h3, h4, h5, rfl, rfl⟩, rfl⟩, h6⟩
         exact ⟨h1, h2, h3, h4, h5, h6⟩
     ·simp [runOp]
    ·exact hf.elim
   ·simp only [flOK] at hf
    split at hf
    ·rename_i b off t
     refine ⟨fun M v M' => ∃ bs', runOp C base (.store n) (.ptr b off :: t) ⟨M.boxes, M.fz, []⟩ (fun u M'' => v = u ∧ bs' = M''.boxes) (fun _ _ => False) ∧ M' = { M with boxes := bs' },
      ⟨fun bs fz v bs' => runOp C base (.store n) (.ptr b off :: t) ⟨bs, fz, []⟩ (fun u M'' => v = u ∧ bs' = M''.boxes) (fun _ _ => False), fun _ _ _ => Iff.rfl⟩, fun M K KP => ?_⟩
     rcases t with _ | ⟨y, _ | ⟨z, l⟩⟩
     ·simp [runOp]
     ·have hbox : (⟨M.boxes, M.fz, []⟩ : Mem).box b = M.box b := rfl
      simp only [runOp, runStore, hbox]
      cases hb : M.box b with
      | none => simp
      | some cs =>
       simp only
       constructor
       ·rintro ⟨h1, h2, h3, h4, h5⟩; exact ⟨_, _, ⟨_, ⟨h1, h2, h3, h4, rfl, rfl⟩, rfl⟩, h5⟩
       ·rintro ⟨v, M', ⟨bs', ⟨h1, h2, h3, h4, rfl, rfl⟩, rfl⟩, h5⟩
        exact ⟨h1, h2, h3, h4, h5⟩
     ·simp [runOp]
    ·rename_i x t
     refine ⟨fun M v M' => False ∧ M' = M ∧ v = v, ⟨fun _ _ _ _ => False, fun _ _ _ => ⟨fun hh => hh.1.elim, fun ⟨_, hh, _⟩ => hh.elim⟩⟩, fun M K KP => ?_⟩
     rcases t with _ | ⟨y, _ | ⟨z, l⟩⟩ <;> simp [runOp, runStore]
    ·exact hf.elim
   ·simp only [flOK] at hf
    split at hf
    ·rename_i b off t
     subst hf
     refine ⟨_, ⟨fun cs cs' => ∃ y, t = [y] ∧ y.cells.length = n ∧ y.cells.all PV.one = true ∧ off + n ≤ cs.length ∧ cs' = splice cs off y.cells, fun _ _ _ => Iff.rfl⟩, fun M K KP => ?_⟩
     rcases t with _ | ⟨y, _ | ⟨z, l⟩⟩
     ·simp [runOp]
     ·simp only [runOp, runStore]
      constructor
      ·intro hh
       split at hh
       ·rename_i cs hcs
        obtain ⟨h1, h2, h3, h4, h5⟩ := hh
        exact ⟨_, _, ⟨cs, _, box_eq hcs, h1, ⟨y, rfl, h2, h3, h4, rfl⟩, rfl, rfl⟩, h5⟩
       ·exact hh.elim
      ·rintro ⟨v, M', ⟨cs, cs', h1, h2, ⟨y', hy, h3, h4, h5, rfl⟩, rfl, rfl⟩, h6⟩
       simp only [List.cons.injEq, and_true] at hy
       subst hy
       have : M.box (base + i) = some cs := by simp [Mem.box, h1]
       rw [this]
       exact ⟨h2, h3, h4, h5, h6⟩
     ·simp [runOp]
    ·exact hf.elim
   ·rw [hw]
    refine ⟨fun M v M' => runOp C base (.store n) args M (fun u M'' => v = u ∧ M' = M'') (fun _ _ => False), trivial, fun M K KP => ?_⟩
    simp only [runOp]
    rcases args with _ | ⟨x, _ | ⟨y, _ | ⟨z, l⟩⟩⟩
    ·simp
    ·simp
    ·simp only [runStore]
     cases x with
     | ptr b off => cases h1 : M.box b <;> simp [h1, and_assoc]
     | eptr k ver i off => cases h1 : M.row k ver <;> cases h2 : allD y.cells <;> simp [h1, h2, and_assoc]
     | _ => simp
    ·simp
  | copy sz =>
   refine ⟨fun M v M' => ∃ as', runOp C base (.copy sz) args ⟨[], [], M.arrs⟩ (fun u M'' => v = u ∧ as' = M''.arrs) (fun _ _ => False) ∧ M' = { M with arrs := as' },
    ⟨fun arrs v as' => runOp C base (.copy sz) args ⟨[], [], arrs⟩ (fun u M'' => v = u ∧ as' = M''.arrs) (fun _ _ => False), fun _ _ _ => Iff.rfl⟩, fun M K KP => ?_⟩
   simp only [runOp]
   split
   ·rename_i k ver skip x
    have hrow : ∀ k ver, (⟨[], [], M.arrs⟩ : Mem).row k ver = M.row k ver := fun _ _ => rfl
    have hsrc : srcOf x ⟨[], [], M.arrs⟩ = srcOf x M := by cases x with
     | d x => cases x <;> rfl
     | _ => rfl
    simp only [hrow, hsrc]
    cases M.row k ver with
    | none => simp
    | some A =>
     cases srcOf x M with
     | none => simp
     | some ys =>
      simp only
      constructor
      ·rintro ⟨h1, h2, h3, h7⟩; exact ⟨_, _, ⟨_, ⟨h1, h2, h3, rfl, rfl⟩, rfl⟩, h7⟩
      ·rintro ⟨v, M', ⟨as', ⟨h1, h2, h3, rfl, rfl⟩, rfl⟩, h7⟩; exact ⟨h1, h2, h3, h7⟩
   ·simp
  | mkSlR sz zs is =>
   refine ⟨fun M v M' => ∃ as', (∃ ds xs, allD args = some ds ∧ fillS sz zs is (ds.map DV.strip) = some xs ∧ 0 < sz ∧ (∀ x ∈ xs, x.fits sz = true) ∧ v = .tsl M.arrs.length 0 0 ∧ as' = M.arrs ++ [some ⟨sz, xs, 0, 1⟩]) ∧ M' = { M with arrs := as' },
    ⟨fun arrs v as' => ∃ ds xs, allD args = some ds ∧ fillS sz zs is (ds.map DV.strip) = some xs ∧ 0 < sz ∧ (∀ x ∈ xs, x.fits sz = true) ∧ v = .tsl arrs.length 0 0 ∧ as' = arrs ++ [some ⟨sz, xs, 0, 1⟩], fun _ _ _ => Iff.rfl⟩, fun M K KP => ?_⟩
   simp only [runOp]
   constructor
   ·intro h
    split at h
    ·rename_i ds hds
     split at h
     ·rename_i xs hxs
      exact ⟨_, _, ⟨_, ⟨ds, xs, hds, hxs, h.1, h.2.1, rfl, rfl⟩, rfl⟩, h.2.2⟩
     ·exact h.elim
    ·exact h.elim
   ·rintro ⟨v, M', ⟨as', ⟨ds, xs, h1, h2, h3, h4, rfl, rfl⟩, rfl⟩, h5⟩
    simp only [h1, h2]
    exact ⟨h3, h4, h5⟩
  | app sz st1 =>
   refine ⟨fun M v M' => ∃ as', runOp C base (.app sz st1) args ⟨[], [], M.arrs⟩ (fun u M'' => v = u ∧ as' = M''.arrs) (fun _ _ => False) ∧ M' = { M with arrs := as' },
    ⟨fun arrs v as' => runOp C base (.app sz st1) args ⟨[], [], arrs⟩ (fun u M'' => v = u ∧ as' = M''.arrs) (fun _ _ => False), fun _ _ _ => Iff.rfl⟩, fun M K KP => ?_⟩
   simp only [runOp]
   rcases args with _ | ⟨s, _ | ⟨x, _ | ⟨z, l⟩⟩⟩
   ·simp
   ·simp
   ·have hrow : ∀ k ver, (⟨[], [], M.arrs⟩ : Mem).row k ver = M.row k ver := fun _ _ => rfl
    have happ : appd sz x ⟨[], [], M.arrs⟩ = appd sz x M := by cases x with
     | d x => cases x <;> rfl
     | _ => rfl
    simp only [runApp, happ]
    cases appd sz x M with
    | none => simp
    | some ys =>
     simp only
     split
     ·constructor
      ·rintro ⟨h1, h2, h3, h4, h5, h6, h7⟩; exact ⟨_, _, ⟨_, ⟨h1, h2, h3, h4, h5, h6, rfl, rfl⟩, rfl⟩, h7⟩
      ·rintro ⟨v, M', ⟨as', ⟨h1, h2, h3, h4, h5, h6, rfl, rfl⟩, rfl⟩, h7⟩; exact ⟨h1, h2, h3, h4, h5, h6, h7⟩
     ·rename_i k ver skip
      simp only [hrow]
      cases M.row k ver with
      | none => simp
      | some A =>
       simp only
       constructor
       ·rintro ⟨h1, h2, h3, h4, h5, h6, h7⟩; exact ⟨_, _, ⟨_, ⟨h1, h2, h3, h4, h5, h6, rfl, rfl⟩, rfl⟩, h7⟩
       ·rintro ⟨v, M', ⟨as', ⟨h1, h2, h3, h4, h5, h6, rfl, rfl⟩, rfl⟩, h7⟩; exact ⟨h1, h2, h3, h4, h5, h6, h7⟩
     ·simp
   ·simp
  | appF sz =>
   have hrw : ∀ (M : Mem) (J : PV → Mem → Prop) (KP : DV → Mem → Prop), runOp C base (.app sz false) args M J KP ↔ ∃ k ver as', (runOp C base (.app sz false) args ⟨[], [], M.arrs⟩ (fun u M'' => .tsl k ver 0 = u ∧ as' = M''.arrs) (fun _ _ => False)) ∧ J (.tsl k ver 0) { M with arrs := as' } := by
    intro M J KP
    simp only [runOp]
    rcases args with _ | ⟨s, _ | ⟨x, _ | ⟨z, l⟩⟩⟩
    ·simp
    ·simp
    ·have hrow : ∀ k ver, (⟨[], [], M.arrs⟩ : Mem).row k ver = M.row k ver := fun _ _ => rfl
     have happ : appd sz x ⟨[], [], M.arrs⟩ = appd sz x M := by cases x with
      | d x => cases x <;> rfl
      | _ => rfl
     simp only [runApp, happ]
     cases appd sz x M with
     | none => simp
     | some ys =>
      simp only
      split
      ·constructor
       ·rintro ⟨h1, h2, h3, h4, h5, h6, h7⟩; exact ⟨_, _, _, ⟨h1, h2, h3, h4, h5, h6, rfl, rfl⟩, h7⟩
       ·rintro ⟨k, ver, as', ⟨h1, h2, h3, h4, h5, h6, h8, rfl⟩, h7⟩; cases h8; exact ⟨h1, h2, h3, h4, h5, h6, h7⟩
      ·rename_i k ver skip
       simp only [hrow]
       cases M.row k ver with
       | none => simp
       | some A =>
        simp only
        constructor
        ·rintro ⟨h1, h2, h3, h4, h5, h6, h7⟩; exact ⟨_, _, _, ⟨h1, h2, h3, h4, h5, h6, rfl, rfl⟩, h7⟩
        ·rintro ⟨k, ver, as', ⟨h1, h2, h3, h4, h5, h6, h8, rfl⟩, h7⟩; cases h8; exact ⟨h1, h2, h3, h4, h5, h6, h7⟩
      ·simp
    ·simp
   have hfz : ∀ (M : Mem) (k ver : Nat), M.frz [.tsl k ver 0] = { M with arrs := frzA [k] M.arrs } := fun M k ver => by simp [Mem.frz, refsB, refsA]
   have hdt : ∀ (M : Mem) (k ver : Nat), datum M (.tsl k ver 0) = datum ⟨[], [], M.arrs⟩ (.tsl k ver 0) := fun _ _ _ => rfl
   refine ⟨fun M v M' => ∃ as', (∃ k ver as0 d, (runOp C base (.app sz false) args ⟨[], [], M.arrs⟩ (fun u M'' => .tsl k ver 0 = u ∧ as0 = M''.arrs) (fun _ _ => False)) ∧ datum ⟨[], [], as0⟩ (.tsl k ver 0) = some d ∧ v = .d d ∧ as' = frzA [k] as0) ∧ M' = { M with arrs := as' },
    ⟨fun arrs v as' => ∃ k ver as0 d, (runOp C base (.app sz false) args ⟨[], [], arrs⟩ (fun u M'' => .tsl k ver 0 = u ∧ as0 = M''.arrs) (fun _ _ => False)) ∧ datum ⟨[], [], as0⟩ (.tsl k ver 0) = some d ∧ v = .d d ∧ as' = frzA [k] as0, fun _ _ _ => Iff.rfl⟩, fun M K KP => ?_⟩
   have := hrw M (fun v M' => ∃ d, datum M' v = some d ∧ K (.d d) (M'.frz [v])) KP
   constructor
   ·intro hh
    obtain ⟨k, ver, as0, h1, d, h2, h3⟩ := this.1 hh
    rw [hdt] at h2
    rw [hfz] at h3
    exact ⟨_, _, ⟨_, ⟨k, ver, as0, d, h1, h2, rfl, rfl⟩, rfl⟩, h3⟩
   ·rintro ⟨_, _, ⟨_, ⟨k, ver, as0, d, h1, h2, rfl, rfl⟩, rfl⟩, h3⟩
    exact this.2 ⟨k, ver, as0, h1, d, by rw [hdt]; exact h2, by rw [hfz]; exact h3⟩
  | pcall f =>
   simp only [kd] at h hp
   by_cases hfl : fl = 1
   ·subst hfl
    obtain ⟨ds, rfl⟩ := data_args (args := args) hf
    have hdl : ∀ M : Mem, datumL M (ds.map .d) = some ds := by
     intro M
     clear hf h hp
     induction ds with
     | nil => rfl
     | cons d ds ih => simp only [List.map_cons, datumL, datum, ih]
    simp only [kd, if_true]
    refine ⟨fun M v M' => ∃ as', (∃ r as, Pure C f (ds.map DV.strip) r as ∧ ((∃ x, r = .d x ∧ isFlat x = true ∧ as = [] ∧ v = r ∧ as' = M.arrs) ∨ ((∀ A ∈ as, A.st ≠ 2) ∧ v = r.shift M.arrs.length ∧ as' = M.arrs ++ as.map some))) ∧ M' = { M with arrs := as' },
     ⟨fun arrs v as' => ∃ r as, Pure C f (ds.map DV.strip) r as ∧ ((∃ x, r = .d x ∧ isFlat x = true ∧ as = [] ∧ v = r ∧ as' = arrs) ∨ ((∀ A ∈ as, A.st ≠ 2) ∧ v = r.shift arrs.length ∧ as' = arrs ++ as.map some)), fun _ _ _ => Iff.rfl⟩, fun M K KP => ?_⟩
    simp only [runOp, runPure, hdl, Option.some.injEq, frz_d]
    constructor
    ·rintro ⟨_, rfl, r, as, hp', (⟨x, rfl, g1, rfl, g2⟩ | ⟨g1, g2⟩)⟩
     ·exact ⟨_, M, ⟨_, ⟨_, _, hp', .inl ⟨x, rfl, g1, rfl, rfl, rfl⟩⟩, rfl⟩, g2⟩
     ·exact ⟨_, _, ⟨_, ⟨_, _, hp', .inr ⟨g1, rfl, rfl⟩⟩, rfl⟩, g2⟩
    ·rintro ⟨v, M', ⟨as', ⟨r, as, hp', (⟨x, rfl, g1, rfl, rfl, rfl⟩ | ⟨g1, rfl, rfl⟩)⟩, rfl⟩, g2⟩
     ·exact ⟨ds, rfl, _, _, hp', .inl ⟨x, rfl, g1, rfl, g2⟩⟩
     ·exact ⟨ds, rfl, _, _, hp', .inr ⟨g1, g2⟩⟩
   ·simp_all
  | mkSl sz zs is => simp only [kd] at h hp; split at h <;> simp_all
  | mkI t => simp only [kd] at h hp; split at h <;> simp_all
  | slcD sz lo hi mx => simp only [kd] at h hp; split at h <;> simp_all
  | _ => simp_all [kd]
end
end Go.Am
