/-
  Part 3 of the proof of a law of plates, the law itself: an abstract machine over the model, contracts of functions, plain laws.
  Conditions: none.
-/
import Derived.Test.YticjmjdcggomgaaGreatDoorPlateSpoiltL02
set_option linter.all false
namespace Go.Proofs.YticjmjdcggomgaaGreatDoor
open Go.ChangeShapes Go.WideShapes Go.RowKit Go.Am
theorem plateSpoilt_ty : okTyAll Tryz.prog [Go.Tel.pieceTy, .int .i64, .int .i64] Tryz.f11.params.toList = true := by kernel_rfl
set_option maxRecDepth 100000 in
theorem plateSpoilt_lifted (hlaw : ∀ xs, HasAll [Go.Tel.pieceTy, .int .i64, .int .i64] xs → Am.Pure Go.Tel.C 11 xs (.d (.bool true)) []) (os : Os) (started : os.Started) (H : Type) (enc : TypeId × Value → H) :
  ReturnsInHanded {} Tryz.checked os 11 .any (fun w args => (Rows.plateSpoiltSpec.pre enc Tryz.prog Tryz.f11 [] false w args ∧ laidMetH Tryz.prog laidL w) ∧ sizedMet enc Tryz.prog Tryz.f11 (OpenSpec.ofChange Rows.plateSpoiltSpec) false w args)
   (Rows.plateSpoiltSpec.post enc Tryz.prog Tryz.f11 false true false false) := by
 refine returnsInHanded_of_change_and (C := Tryz.checked) (X := fun w _ => laidMetH Tryz.prog laidL w) (fun _ _ _ hh h => h.of_heap hh) own started (by kernel_rfl) Tryz.func11
  (ChangeSpec.witness_at (enc := enc) (C := Tryz.checked) (os := os) (X := fun w _ => laidMetH Tryz.prog laidL w) false (World.laidAll Tryz.prog os laidL)
   #[.agg #[.int .i64 0, .int .i64 0, .int .i64 0, .int .i64 0, .int .i64 0, .slice none 0 0, .slice none 0 0, .slice none 0 0], .int .i64 0, .int .i64 0] 8 (World.laidAll_os _ _ _) (by kernel_rfl) (by kernel_rfl) (by kernel_rfl) (by kernel_rfl) (by kernel_rfl) (laidH_met os _)) ?_
 intro W base args ds gs before hval0 hW _ _ hL _
 have hW' := hW
 obtain ⟨p, q, hA, hV, rfl, hfz, hnd⟩ := hW
 obtain ⟨rfl, rfl⟩ := trodVars_none hV
 have hG := tab_of hL
 refine (law_calls (C := Go.Tel.C) (P := Tryz.prog) (Ts := [Go.Tel.pieceTy, .int .i64, .int .i64]) rfl hG (Go.Tel.low_ok hG) plateSpoilt_ty (fun j t v ht hv => hval0 j t v (by simpa using ht) (by simpa using hv)) hA hlaw).mono ?_
 rintro e W' ⟨rfl, hb⟩
 refine ⟨_, rfl, law_post (tb := 4) laidOut rfl hW' (by kernel_rfl) (by kernel_rfl) (fun t ht => ?_) ?_ hb⟩
 ·have : t = 26 ∨ t = 3 := by
   rw [Tryz.params11] at ht
   change t ∈ ([26, 3, 3] : List TypeId) at ht
   simp only [List.mem_cons, List.not_mem_nil, or_false] at ht
   rcases ht with h | h | h <;> simp [h]
  rcases this with rfl | rfl
  ·exact ⟨by kernel_rfl, of_decide_eq_true (by kernel_rfl)⟩
  ·exact ⟨by kernel_rfl, of_decide_eq_true (by kernel_rfl)⟩
 ·have hl := trodAll_len hA
  rw [Tryz.params11] at hl
  obtain ⟨d0, d1, d2, rfl⟩ := len_3 hl
  rfl
end Go.Proofs.YticjmjdcggomgaaGreatDoor
