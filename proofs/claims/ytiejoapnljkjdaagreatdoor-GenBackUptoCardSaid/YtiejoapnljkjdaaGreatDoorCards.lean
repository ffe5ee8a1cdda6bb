/-
  DERIVED. GIVEN WITH THE SEED: THE CARDS: each row of YtiejoapnljkjdaaGreatDoorRows.lean that lists a variable, with what it lists TIED to the program's text (the seventh form; the later family's looks); each row that meets fmt, with fmt's text TOLD by the authors' own Lean function (tested against real Go, not proved from fmt's source: count such statements apart). THE CARD IS WHAT COUNTS. Prove the row's statement (the work); the ties are given (YtiejoapnljkjdaaGreatDoorTie.lean); close each card by the builder's one call (the guide's Derived/Test/ToyasCard.lean, 'card_holds'). Laid BY PROGRAM, IN A SANDBOX (cutbox-door.mjs). By AI agents, Wed Nov 11 2026. No macro, syntax, notation, axiom, sorry.
-/
import Derived.Test.YtiejoapnljkjdaaGreatDoorRows
import GoSem.ClaimSeven
namespace Go.Proofs.YtiejoapnljkjdaaGreatDoor
namespace Rows

/-- THE TIED CARD OF 'usancelaw17.GenRights'. -/
def genRightsCard : Claim7 := { stood := { row := genRightsRow, standIns := [], harness := (true, "4aa4db51aa1e5f749cac4daf45a5b24a9c3a61a3bda70d5d9c73593748f6bd58"), looks := true }, kinds := [], alts := [], laidByText := true, laidKinds := [.data, .pinned], laidTests := true, laidLooks := .later }
def GenRightsCardSaid : Prop := Claim7.holds Tryz.pinned (.plain (OpenSpec.ofChange genRightsSpec)) genRightsCard

/-- THE TIED CARD OF 'usancelaw17.GenBytes'. -/
def genBytesCard : Claim7 := { stood := { row := genBytesRow, standIns := [], harness := (true, "4aa4db51aa1e5f749cac4daf45a5b24a9c3a61a3bda70d5d9c73593748f6bd58"), looks := true }, kinds := [], alts := [], laidByText := true, laidKinds := [.data, .pinned], laidTests := true, laidLooks := .later }
def GenBytesCardSaid : Prop := Claim7.holds Tryz.pinned (.plain (OpenSpec.ofChange genBytesSpec)) genBytesCard

/-- THE TIED CARD OF 'usancelaw17.GenBack'. -/
def genBackCard : Claim7 := { stood := { row := genBackRow, standIns := [], harness := (true, "4aa4db51aa1e5f749cac4daf45a5b24a9c3a61a3bda70d5d9c73593748f6bd58"), looks := true }, kinds := [], alts := [], laidByText := true, laidKinds := [.data, .pinned], laidTests := true, laidLooks := .later }
def GenBackCardSaid : Prop := Claim7.holds Tryz.pinned (.plain (OpenSpec.ofChange genBackSpec)) genBackCard

/-- THE SECOND FORM's CARD OF 'usancelaw17.GenRights'. -/
def genRightsUptoCard : Claim7 := { stood := { row := genRightsUptoRow, standIns := [], harness := (true, "4aa4db51aa1e5f749cac4daf45a5b24a9c3a61a3bda70d5d9c73593748f6bd58"), looks := true }, kinds := [], alts := [], laidByText := true, laidKinds := [.data, .pinned], laidTests := true, laidLooks := .later }
def GenRightsUptoCardSaid : Prop := Claim7.holds Tryz.pinned (.plain (OpenSpec.upto genRightsSpec)) genRightsUptoCard

/-- THE SECOND FORM's CARD OF 'usancelaw17.GenBytes'. -/
def genBytesUptoCard : Claim7 := { stood := { row := genBytesUptoRow, standIns := [], harness := (true, "4aa4db51aa1e5f749cac4daf45a5b24a9c3a61a3bda70d5d9c73593748f6bd58"), looks := true }, kinds := [], alts := [], laidByText := true, laidKinds := [.data, .pinned], laidTests := true, laidLooks := .later }
def GenBytesUptoCardSaid : Prop := Claim7.holds Tryz.pinned (.plain (OpenSpec.upto genBytesSpec)) genBytesUptoCard

/-- THE SECOND FORM's CARD OF 'usancelaw17.GenBack'. -/
def genBackUptoCard : Claim7 := { stood := { row := genBackUptoRow, standIns := [], harness := (true, "4aa4db51aa1e5f749cac4daf45a5b24a9c3a61a3bda70d5d9c73593748f6bd58"), looks := true }, kinds := [], alts := [], laidByText := true, laidKinds := [.data, .pinned], laidTests := true, laidLooks := .later }
def GenBackUptoCardSaid : Prop := Claim7.holds Tryz.pinned (.plain (OpenSpec.upto genBackSpec)) genBackUptoCard
end Rows
end Go.Proofs.YtiejoapnljkjdaaGreatDoor
