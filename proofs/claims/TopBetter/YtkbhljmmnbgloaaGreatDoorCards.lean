/-
  DERIVED. GIVEN WITH THE SEED: THE CARDS: each row of YtkbhljmmnbgloaaGreatDoorRows.lean that lists a variable, with what it lists TIED to the program's text (the seventh form; the later family's looks); each row that meets fmt, with fmt's text TOLD by the authors' own Lean function (tested against real Go, not proved from fmt's source: count such statements apart). THE CARD IS WHAT COUNTS. Prove the row's statement (the work); the ties are given (YtkbhljmmnbgloaaGreatDoorTie.lean); close each card by the builder's one call (the guide's Derived/Test/ToyasCard.lean, 'card_holds'). Laid BY PROGRAM, IN A SANDBOX (cutbox-door.mjs). By AI agents, Wed Nov 11 2026. No macro, syntax, notation, axiom, sorry.
-/
import Derived.Test.YtkbhljmmnbgloaaGreatDoorRows
import GoSem.ClaimSeven
namespace Go.Proofs.YtkbhljmmnbgloaaGreatDoor
namespace Rows

/-- THE TIED CARD OF 'telluriontop.TopDiscs'. -/
def topDiscsCard : Claim7 := { stood := { row := topDiscsRow, standIns := [], harness := (true, "8203212ac23b2da707031fe617061f62d99d1c44dfc24e7922aef608d977be5d"), looks := true }, kinds := [], alts := [], laidByText := true, laidKinds := [.data, .data, .data, .data, .pinned], laidTests := true, laidLooks := .later }
def TopDiscsCardSaid : Prop := Claim7.holds Tryz.pinned (.plain (OpenSpec.ofChange topDiscsSpec)) topDiscsCard

/-- THE TIED CARD OF 'telluriontop.TopIdle'. -/
def topIdleCard : Claim7 := { stood := { row := topIdleRow, standIns := [], harness := (true, "8203212ac23b2da707031fe617061f62d99d1c44dfc24e7922aef608d977be5d"), looks := true }, kinds := [], alts := [], laidByText := true, laidKinds := [.data, .data, .data, .data, .pinned], laidTests := true, laidLooks := .later }
def TopIdleCardSaid : Prop := Claim7.holds Tryz.pinned (.plain (OpenSpec.ofChange topIdleSpec)) topIdleCard

/-- THE TIED CARD OF 'telluriontop.TopBetter'. -/
def topBetterCard : Claim7 := { stood := { row := topBetterRow, standIns := [], harness := (true, "8203212ac23b2da707031fe617061f62d99d1c44dfc24e7922aef608d977be5d"), looks := true }, kinds := [], alts := [], laidByText := true, laidKinds := [.data, .data, .data, .data, .pinned], laidTests := true, laidLooks := .later }
def TopBetterCardSaid : Prop := Claim7.holds Tryz.pinned (.plain (OpenSpec.ofChange topBetterSpec)) topBetterCard

/-- THE SECOND FORM's CARD OF 'telluriontop.TopDiscs'. -/
def topDiscsUptoCard : Claim7 := { stood := { row := topDiscsUptoRow, standIns := [], harness := (true, "8203212ac23b2da707031fe617061f62d99d1c44dfc24e7922aef608d977be5d"), looks := true }, kinds := [], alts := [], laidByText := true, laidKinds := [.data, .data, .data, .data, .pinned], laidTests := true, laidLooks := .later }
def TopDiscsUptoCardSaid : Prop := Claim7.holds Tryz.pinned (.plain (OpenSpec.upto topDiscsSpec)) topDiscsUptoCard

/-- THE SECOND FORM's CARD OF 'telluriontop.TopIdle'. -/
def topIdleUptoCard : Claim7 := { stood := { row := topIdleUptoRow, standIns := [], harness := (true, "8203212ac23b2da707031fe617061f62d99d1c44dfc24e7922aef608d977be5d"), looks := true }, kinds := [], alts := [], laidByText := true, laidKinds := [.data, .data, .data, .data, .pinned], laidTests := true, laidLooks := .later }
def TopIdleUptoCardSaid : Prop := Claim7.holds Tryz.pinned (.plain (OpenSpec.upto topIdleSpec)) topIdleUptoCard

/-- THE SECOND FORM's CARD OF 'telluriontop.TopBetter'. -/
def topBetterUptoCard : Claim7 := { stood := { row := topBetterUptoRow, standIns := [], harness := (true, "8203212ac23b2da707031fe617061f62d99d1c44dfc24e7922aef608d977be5d"), looks := true }, kinds := [], alts := [], laidByText := true, laidKinds := [.data, .data, .data, .data, .pinned], laidTests := true, laidLooks := .later }
def TopBetterUptoCardSaid : Prop := Claim7.holds Tryz.pinned (.plain (OpenSpec.upto topBetterSpec)) topBetterUptoCard
end Rows
end Go.Proofs.YtkbhljmmnbgloaaGreatDoor
