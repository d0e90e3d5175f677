/-
  Part 5 of the proof of a law of plates, the law itself: an abstract machine over the model, contracts of functions, plain laws.
  Conditions: none.
-/
import Derived.Test.YtpjjdinlflfgkabGreatDoorPlateRoundL04
import Derived.Test.YtpjjdinlflfgkabGreatDoorCards
import Derived.Test.YtpjjdinlflfgkabGreatDoorTie
import Derived.SevenTiedAt
set_option linter.all false
namespace Go.Proofs.YtpjjdinlflfgkabGreatDoor
open Go.ChangeShapes Go.WideShapes Go.RowKit Go.Am
set_option maxRecDepth 100000 in
theorem plateRound_card (hlaw : ∀ xs, HasAll [Go.Tel.dvdTy, .int .i64] xs → Am.Pure Go.Tel.C 13 xs (.d (.bool true)) []) : Rows.PlateRoundCardSaid :=
 Claim7.holds_tied_plain_at .later [] [.data, .data, .data, .data, .pinned] true (true, "75f69f7f745ea161d85b67deea7535774cf87f0920b2591dec77504779607bbb") true
  (plateRound_row hlaw) (fun _ h => by cases h) (by kernel_rfl) (fun _ h => by cases h) plateRound_row_tie rfl ⟨rfl, rfl⟩ (by kernel_rfl) rfl
  (fun f fn hf hfn => by
   obtain rfl : f = 13 := Option.some.inj ((show Tryz.prog.funcNamed "tellurion/tellurionlaw02.PlateRound" = some 13 by kernel_rfl).symm.trans hf) |>.symm
   obtain rfl : fn = Tryz.f13 := (Option.some.inj (Tryz.func13.symm.trans hfn)).symm
   exact ⟨by kernel_rfl, fun j t ht => by
    rw [Tryz.params13] at ht
    have h3 : t = 80 ∨ t = 3 := by
     have ht' : t ∈ ([80, 3] : List TypeId) := List.mem_of_getElem? (by simpa using ht)
     simp only [List.mem_cons, List.not_mem_nil, or_false] at ht'
     rcases ht' with h | h <;> simp [h]
    rcases h3 with rfl | rfl
    ·exact (show Tryz.prog.wantsStandIn 80 = false by kernel_rfl)
    ·exact (show Tryz.prog.wantsStandIn 3 = false by kernel_rfl)⟩)
  (by kernel_rfl)
end Go.Proofs.YtpjjdinlflfgkabGreatDoor
