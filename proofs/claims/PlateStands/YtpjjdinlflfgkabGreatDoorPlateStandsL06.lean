/-
  Part 6 of the proof of a law of plates, the law itself: an abstract machine over the model, contracts of functions, plain laws.
  Conditions: none.
-/
import Derived.Test.YtpjjdinlflfgkabGreatDoorPlateStandsL05
import Derived.Test.YtpjjdinlflfgkabGreatDoorCards
import Derived.Test.YtpjjdinlflfgkabGreatDoorTie
import Derived.SevenTiedAt
set_option linter.all false
namespace Go.Proofs.YtpjjdinlflfgkabGreatDoor
open Go.ChangeShapes Go.WideShapes Go.RowKit Go.Am
set_option maxRecDepth 100000 in
theorem plateStands_card (hlaw : ∀ xs, HasAll [Go.Tel.pieceTy, .int .i64, .int .i64, .int .i64, Go.Tel.ptTy] xs → Am.Pure Go.Tel.C 5 xs (.d (.bool true)) []) : Rows.PlateStandsCardSaid :=
 Claim7.holds_tied_plain_at .later [] [.data, .data, .data, .data, .pinned] true (true, "75f69f7f745ea161d85b67deea7535774cf87f0920b2591dec77504779607bbb") true
  (plateStands_row hlaw) (fun _ h => by cases h) (by kernel_rfl) (fun _ h => by cases h) plateStands_row_tie rfl ⟨rfl, rfl⟩ (by kernel_rfl) rfl
  (fun f fn hf hfn => by
   obtain rfl : f = 5 := Option.some.inj ((show Tryz.prog.funcNamed "tellurion/tellurionlaw02.PlateStands" = some 5 by kernel_rfl).symm.trans hf) |>.symm
   obtain rfl : fn = Tryz.f5 := (Option.some.inj (Tryz.func5.symm.trans hfn)).symm
   exact ⟨by kernel_rfl, fun j t ht => by
    rw [Tryz.params5] at ht
    have h3 : t = 26 ∨ t = 3 ∨ t = 42 := by
     have ht' : t ∈ ([26, 3, 3, 3, 42] : List TypeId) := List.mem_of_getElem? (by simpa using ht)
     simp only [List.mem_cons, List.not_mem_nil, or_false] at ht'
     rcases ht' with h | h | h | h | h <;> simp [h]
    rcases h3 with rfl | rfl | rfl
    ·exact (show Tryz.prog.wantsStandIn 26 = false by kernel_rfl)
    ·exact (show Tryz.prog.wantsStandIn 3 = false by kernel_rfl)
    ·exact (show Tryz.prog.wantsStandIn 42 = false by kernel_rfl)⟩)
  (by kernel_rfl)
end Go.Proofs.YtpjjdinlflfgkabGreatDoor
