/-
  Part 5 of the proof of a law of plates, the law itself: an abstract machine over the model, contracts of functions, plain laws.
  Conditions: none.
-/
import Derived.Test.YtpjjdinlflfgkaaGreatDoorPlateEvenedL04
import Derived.Test.YtpjjdinlflfgkaaGreatDoorCards
import Derived.Test.YtpjjdinlflfgkaaGreatDoorTie
import Derived.SevenTiedAt
set_option linter.all false
namespace Go.Proofs.YtpjjdinlflfgkaaGreatDoor
open Go.ChangeShapes Go.WideShapes Go.RowKit Go.Am
set_option maxRecDepth 100000 in
theorem plateEvened_card (hlaw : ∀ xs, HasAll [.int .i64, .slice (.int .i64), .int .i64, .int .i64, .int .i64] xs → Am.Pure Go.Tel.C 13 xs (.d (.bool true)) []) : Rows.PlateEvenedCardSaid :=
 Claim7.holds_tied_plain_at .later [] [.data, .data, .data, .data, .pinned] true (true, "463e82dfb21d0f02379e78c6158bf5fd3ed2cc8cf0e176740507614031544bd9") true
  (plateEvened_row hlaw) (fun _ h => by cases h) (by kernel_rfl) (fun _ h => by cases h) plateEvened_row_tie rfl ⟨rfl, rfl⟩ (by kernel_rfl) rfl
  (fun f fn hf hfn => by
   obtain rfl : f = 13 := Option.some.inj ((show Tryz.prog.funcNamed "tellurion/tellurionlaw02.PlateEvened" = some 13 by kernel_rfl).symm.trans hf) |>.symm
   obtain rfl : fn = Tryz.f13 := (Option.some.inj (Tryz.func13.symm.trans hfn)).symm
   exact ⟨by kernel_rfl, fun j t ht => by
    rw [Tryz.params13] at ht
    have h3 : t = 3 ∨ t = 29 := by
     have ht' : t ∈ ([3, 29, 3, 3, 3] : List TypeId) := List.mem_of_getElem? (by simpa using ht)
     simp only [List.mem_cons, List.not_mem_nil, or_false] at ht'
     rcases ht' with h | h | h | h | h <;> simp [h]
    rcases h3 with rfl | rfl
    ·exact (show Tryz.prog.wantsStandIn 3 = false by kernel_rfl)
    ·exact (show Tryz.prog.wantsStandIn 29 = false by kernel_rfl)⟩)
  (by kernel_rfl)
end Go.Proofs.YtpjjdinlflfgkaaGreatDoor
