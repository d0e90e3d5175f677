/-
  Part 5 of the proof of a law of plates, the law itself: an abstract machine over the model, contracts of functions, plain laws.
  Conditions: none.
-/
import Derived.Test.YticjmjdcggomgaaGreatDoorPlateSpoiltL04
import Derived.Test.YticjmjdcggomgaaGreatDoorCards
import Derived.Test.YticjmjdcggomgaaGreatDoorTie
import Derived.SevenTiedAt
set_option linter.all false
namespace Go.Proofs.YticjmjdcggomgaaGreatDoor
open Go.ChangeShapes Go.WideShapes Go.RowKit Go.Am
set_option maxRecDepth 100000 in
theorem plateSpoilt_card (hlaw : ∀ xs, HasAll [Go.Tel.pieceTy, .int .i64, .int .i64] xs → Am.Pure Go.Tel.C 11 xs (.d (.bool true)) []) : Rows.PlateSpoiltCardSaid :=
 Claim7.holds_tied_plain_at .later [] [.data, .data, .data, .data, .pinned] true (true, "2e9d653d22b11ebd3834900b8ce7bdad775251e5f3a44458fc3bf31d9359df28") true
  (plateSpoilt_row hlaw) (fun _ h => by cases h) (by kernel_rfl) (fun _ h => by cases h) plateSpoilt_row_tie rfl ⟨rfl, rfl⟩ (by kernel_rfl) rfl
  (fun f fn hf hfn => by
   obtain rfl : f = 11 := Option.some.inj ((show Tryz.prog.funcNamed "tellurion/tellurionlaw02.PlateSpoilt" = some 11 by kernel_rfl).symm.trans hf) |>.symm
   obtain rfl : fn = Tryz.f11 := (Option.some.inj (Tryz.func11.symm.trans hfn)).symm
   exact ⟨by kernel_rfl, fun j t ht => by
    rw [Tryz.params11] at ht
    have h3 : t = 26 ∨ t = 3 := by
     have ht' : t ∈ ([26, 3, 3] : List TypeId) := List.mem_of_getElem? (by simpa using ht)
     simp only [List.mem_cons, List.not_mem_nil, or_false] at ht'
     rcases ht' with h | h | h <;> simp [h]
    rcases h3 with rfl | rfl
    ·exact (show Tryz.prog.wantsStandIn 26 = false by kernel_rfl)
    ·exact (show Tryz.prog.wantsStandIn 3 = false by kernel_rfl)⟩)
  (by kernel_rfl)
end Go.Proofs.YticjmjdcggomgaaGreatDoor
