/-
  Part 4 of the proof of a law of plates, the law itself: an abstract machine over the model, contracts of functions, plain laws.
  Conditions: none.
-/
import Derived.Test.YticjmjdcggomgaaGreatDoorPlateReadsL03
set_option linter.all false
namespace Go.Proofs.YticjmjdcggomgaaGreatDoor
open Go.ChangeShapes Go.WideShapes Go.RowKit Go.Am
theorem plateReads_ty : okTyAll Tryz.prog [.str] Tryz.f10.params.toList = true := by kernel_rfl
set_option maxRecDepth 100000 in
theorem plateReads_lifted (hlaw : ∀ xs, HasAll [.str] xs → Am.Pure Go.Tel.C 10 xs (.d (.bool true)) []) (os : Os) (started : os.Started) (H : Type) (enc : TypeId × Value → H) :
  ReturnsInHanded {} Tryz.checked os 10 .any (fun w args => (Rows.plateReadsSpec.pre enc Tryz.prog Tryz.f10 [] false w args ∧ laidMetH Tryz.prog laidL w) ∧ sizedMet enc Tryz.prog Tryz.f10 (OpenSpec.ofChange Rows.plateReadsSpec) false w args)
   (Rows.plateReadsSpec.post enc Tryz.prog Tryz.f10 false true false false) := by
 refine returnsInHanded_of_change_and (C := Tryz.checked) (X := fun w _ => laidMetH Tryz.prog laidL w) (fun _ _ _ hh h => h.of_heap hh) own started (by kernel_rfl) Tryz.func10
  (ChangeSpec.witness_at (enc := enc) (C := Tryz.checked) (os := os) (X := fun w _ => laidMetH Tryz.prog laidL w) false (World.laidAll Tryz.prog os laidL)
   #[.string ByteArray.empty] 8 (World.laidAll_os _ _ _) (by kernel_rfl) (by kernel_rfl) (by kernel_rfl) (by kernel_rfl) (by kernel_rfl) (laidH_met os _)) ?_
 intro W base args ds gs before hval0 hW _ _ hL _
 have hW' := hW
 obtain ⟨p, q, hA, hV, rfl, hfz, hnd⟩ := hW
 obtain ⟨rfl, rfl⟩ := trodVars_none hV
 have hG := tab_of hL
 refine (law_calls (C := Go.Tel.C) (P := Tryz.prog) (Ts := [.str]) rfl hG (Go.Tel.low_ok hG) plateReads_ty (fun j t v ht hv => hval0 j t v (by simpa using ht) (by simpa using hv)) hA hlaw).mono ?_
 rintro e W' ⟨rfl, hb⟩
 refine ⟨_, rfl, law_post (tb := 4) laidOut rfl hW' (by kernel_rfl) (by kernel_rfl) (fun t ht => ?_) ?_ hb⟩
 ·have : t = 9 := by
   rw [Tryz.params10] at ht
   change t ∈ ([9] : List TypeId) at ht
   simp only [List.mem_cons, List.not_mem_nil, or_false] at ht
   exact ht
  rcases this with rfl
  ·exact ⟨by kernel_rfl, of_decide_eq_true (by kernel_rfl)⟩
 ·have hl := trodAll_len hA
  rw [Tryz.params10] at hl
  obtain ⟨d0, rfl⟩ := len_1 hl
  rfl
end Go.Proofs.YticjmjdcggomgaaGreatDoor
