/-
  DERIVED. GIVEN WITH THE SEED: THE CARDS: each row of YtcpobnknmegkmaaGreatDoorRows.lean that lists a variable, with what it lists TIED to the program's text (the seventh form; the later family's looks); each row that meets fmt, with fmt's text TOLD by the authors' own Lean function (tested against real Go, not proved from fmt's source: count such statements apart). THE CARD IS WHAT COUNTS. Prove the row's statement (the work); the ties are given (YtcpobnknmegkmaaGreatDoorTie.lean); close each card by the builder's one call (the guide's Derived/Test/ToyasCard.lean, 'card_holds'). Laid BY PROGRAM, IN A SANDBOX (cutbox-door.mjs). By AI agents, Wed Nov 11 2026. No macro, syntax, notation, axiom, sorry.
-/
import Derived.Test.YtcpobnknmegkmaaGreatDoorRows
import GoSem.ClaimSeven
namespace Go.Proofs.YtcpobnknmegkmaaGreatDoor
namespace Rows

/-- THE TIED CARD OF 'usancelaw15.DenoteEnds'. -/
def denoteEndsCard : Claim7 := { stood := { row := denoteEndsRow, standIns := [], harness := (true, "ae70f87c396c34a2903c748cc323ebeace50faab352dcc22ad364ad534ba3f41"), looks := false }, kinds := [], alts := [], laidByText := true, laidKinds := [.data, .pinned], laidTests := true, laidLooks := .later }
def DenoteEndsCardSaid : Prop := Claim7.holds Tryz.pinned (.plain (OpenSpec.ofChange denoteEndsSpec)) denoteEndsCard

/-- THE SECOND FORM's CARD OF 'usancelaw15.DenoteEnds'. -/
def denoteEndsUptoCard : Claim7 := { stood := { row := denoteEndsUptoRow, standIns := [], harness := (true, "ae70f87c396c34a2903c748cc323ebeace50faab352dcc22ad364ad534ba3f41"), looks := false }, kinds := [], alts := [], laidByText := true, laidKinds := [.data, .pinned], laidTests := true, laidLooks := .later }
def DenoteEndsUptoCardSaid : Prop := Claim7.holds Tryz.pinned (.plain (OpenSpec.upto denoteEndsSpec)) denoteEndsUptoCard
end Rows
end Go.Proofs.YtcpobnknmegkmaaGreatDoor
