/-
  Part 3 of the proof of a law of plates, the law itself: an abstract machine over the model, contracts of functions, plain laws.
  Conditions: none.
-/
import Derived.Test.YtpjjdinlflfgkaaGreatDoorPlateEvensL02
import Derived.Test.YtpjjdinlflfgkaaGreatDoorCards
import Derived.Test.YtpjjdinlflfgkaaGreatDoorTie
import Derived.SevenTiedAt
set_option linter.all false
namespace Go.Proofs.YtpjjdinlflfgkaaGreatDoor
open Go.ChangeShapes Go.WideShapes Go.RowKit Go.Am
theorem plateEvens_ty : okTyAll Tryz.prog [.int .i64, .slice (.int .i64)] Tryz.f12.params.toList = true := by kernel_rfl
set_option maxRecDepth 100000 in
theorem plateEvens_lifted (hlaw : ∀ xs, HasAll [.int .i64, .slice (.int .i64)] xs → Am.Pure Go.Tel.C 12 xs (.d (.bool true)) []) (os : Os) (started : os.Started) (H : Type) (enc : TypeId × Value → H) :
  ReturnsInHanded {} Tryz.checked os 12 .any (fun w args => (Rows.plateEvensSpec.pre enc Tryz.prog Tryz.f12 [] false w args ∧ laidMetH Tryz.prog laidL w) ∧ sizedMet enc Tryz.prog Tryz.f12 (OpenSpec.ofChange Rows.plateEvensSpec) false w args)
   (Rows.plateEvensSpec.post enc Tryz.prog Tryz.f12 false true false false) := by
 refine returnsInHanded_of_change_and (C := Tryz.checked) (X := fun w _ => laidMetH Tryz.prog laidL w) (fun _ _ _ hh h => h.of_heap hh) own started (by kernel_rfl) Tryz.func12
  (ChangeSpec.witness_at (enc := enc) (C := Tryz.checked) (os := os) (X := fun w _ => laidMetH Tryz.prog laidL w) false (World.laidAll Tryz.prog os laidL)
   #[.int .i64 0, .slice none 0 0] 8 (World.laidAll_os _ _ _) (by kernel_rfl) (by kernel_rfl) (by kernel_rfl) (by kernel_rfl) (by kernel_rfl) (laidH_met os _)) ?_
 intro W base args ds gs before hval0 hW _ _ hL _
 have hW' := hW
 obtain ⟨p, q, hA, hV, rfl, hfz, hnd⟩ := hW
 obtain ⟨rfl, rfl⟩ := trodVars_none hV
 have hG := tab_of hL
 refine (law_calls (C := Go.Tel.C) (P := Tryz.prog) (Ts := [.int .i64, .slice (.int .i64)]) rfl hG (Go.Tel.low_ok hG) plateEvens_ty (fun j t v ht hv => hval0 j t v (by simpa using ht) (by simpa using hv)) hA hlaw).mono ?_
 rintro e W' ⟨rfl, hb⟩
 refine ⟨_, rfl, law_post (tb := 4) laidOut rfl hW' (by kernel_rfl) (by kernel_rfl) (fun t ht => ?_) ?_ hb⟩
 ·have : t = 3 ∨ t = 29 := by
   rw [Tryz.params12] at ht
   first | simpa using ht | (simp at ht; omega)
  rcases this with rfl | rfl
  ·exact ⟨by kernel_rfl, of_decide_eq_true (by kernel_rfl)⟩
  ·exact ⟨by kernel_rfl, of_decide_eq_true (by kernel_rfl)⟩
 ·have hl := trodAll_len hA
  rw [Tryz.params12] at hl
  obtain ⟨d0, d1, rfl⟩ := len_2 hl
  rfl
set_option maxRecDepth 100000 in
theorem plateEvens_row (hlaw : ∀ xs, HasAll [.int .i64, .slice (.int .i64)] xs → Am.Pure Go.Tel.C 12 xs (.d (.bool true)) []) : Rows.PlateEvensSaid :=
 OpenClaim.holds_of_wide 12 Tryz.f12 rfl rfl rfl rfl rfl rfl rfl ⟨rfl, rfl, rfl, rfl, rfl⟩ rfl rfl rfl rfl rfl (by kernel_rfl) Tryz.func12 (by kernel_rfl)
  (of_decide_eq_true (by kernel_rfl)) (by unfold Func.isWrapper; first | (rw [if_pos (by decide +kernel)]; kernel_rfl) | (rw [if_neg (by decide +kernel)]; exact ⟨rfl, rfl⟩))
  (fun os started H enc _ => plateEvens_lifted hlaw os started H enc)
set_option maxRecDepth 100000 in
theorem plateEvens_card (hlaw : ∀ xs, HasAll [.int .i64, .slice (.int .i64)] xs → Am.Pure Go.Tel.C 12 xs (.d (.bool true)) []) : Rows.PlateEvensCardSaid :=
 Claim7.holds_tied_plain_at .later [] [.data, .data, .data, .data, .pinned] true (true, "463e82dfb21d0f02379e78c6158bf5fd3ed2cc8cf0e176740507614031544bd9") true
  (plateEvens_row hlaw) (fun _ h => by cases h) (by kernel_rfl) (fun _ h => by cases h) plateEvens_row_tie rfl ⟨rfl, rfl⟩ (by kernel_rfl) rfl
  (fun f fn hf hfn => by
   obtain rfl : f = 12 := Option.some.inj ((show Tryz.prog.funcNamed "tellurion/tellurionlaw02.PlateEvens" = some 12 by kernel_rfl).symm.trans hf) |>.symm
   obtain rfl : fn = Tryz.f12 := (Option.some.inj (Tryz.func12.symm.trans hfn)).symm
   exact ⟨by kernel_rfl, fun j t ht => by
    rw [Tryz.params12] at ht
    have h3 : t = 3 ∨ t = 29 := by
     have := List.mem_of_getElem? (by simpa using ht)
     first | simpa using this | (simp at this; omega)
    rcases h3 with rfl | rfl
    ·exact (show Tryz.prog.wantsStandIn 3 = false by kernel_rfl)
    ·exact (show Tryz.prog.wantsStandIn 29 = false by kernel_rfl)⟩)
  (by kernel_rfl)
end Go.Proofs.YtpjjdinlflfgkaaGreatDoor
