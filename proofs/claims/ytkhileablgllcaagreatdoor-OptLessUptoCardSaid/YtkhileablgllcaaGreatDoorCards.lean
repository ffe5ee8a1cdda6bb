/-
  DERIVED. GIVEN WITH THE SEED: THE CARDS: each row of YtkhileablgllcaaGreatDoorRows.lean that lists a variable, with what it lists TIED to the program's text (the seventh form; the later family's looks); each row that meets fmt, with fmt's text TOLD by the authors' own Lean function (tested against real Go, not proved from fmt's source: count such statements apart). THE CARD IS WHAT COUNTS. Prove the row's statement (the work); the ties are given (YtkhileablgllcaaGreatDoorTie.lean); close each card by the builder's one call (the guide's Derived/Test/ToyasCard.lean, 'card_holds'). Laid BY PROGRAM, IN A SANDBOX (cutbox-door.mjs). By AI agents, Wed Nov 11 2026. No macro, syntax, notation, axiom, sorry.
-/
import Derived.Test.YtkhileablgllcaaGreatDoorRows
import GoSem.ClaimSeven
namespace Go.Proofs.YtkhileablgllcaaGreatDoor
namespace Rows

/-- THE TIED CARD OF 'usancelaw16.OptLess'. -/
def optLessCard : Claim7 := { stood := { row := optLessRow, standIns := [], harness := (true, "1fbd1d1959956f191734fd1653e30cfc2cd3074590efac1d60f0341e0982c2f4"), looks := false }, kinds := [], alts := [], laidByText := true, laidKinds := [.data, .pinned], laidTests := true, laidLooks := .later }
def OptLessCardSaid : Prop := Claim7.holds Tryz.pinned (.plain (OpenSpec.ofChange optLessSpec)) optLessCard

/-- THE SECOND FORM's CARD OF 'usancelaw16.OptLess'. -/
def optLessUptoCard : Claim7 := { stood := { row := optLessUptoRow, standIns := [], harness := (true, "1fbd1d1959956f191734fd1653e30cfc2cd3074590efac1d60f0341e0982c2f4"), looks := false }, kinds := [], alts := [], laidByText := true, laidKinds := [.data, .pinned], laidTests := true, laidLooks := .later }
def OptLessUptoCardSaid : Prop := Claim7.holds Tryz.pinned (.plain (OpenSpec.upto optLessSpec)) optLessUptoCard
end Rows
end Go.Proofs.YtkhileablgllcaaGreatDoor
