/-
  DERIVED. GIVEN WITH THE SEED: THE CARDS: each row of YtbpcgcmlpgdmbaaDoorRows.lean that lists a variable, with what it lists TIED to the program's text (the seventh form; the later family's looks); each row that meets fmt, with fmt's text TOLD by the authors' own Lean function (tested against real Go, not proved from fmt's source: count such statements apart). THE CARD IS WHAT COUNTS. Prove the row's statement (the work); the ties are given (YtbpcgcmlpgdmbaaDoorTie.lean); close each card by the builder's one call (the guide's Derived/Test/ToyasCard.lean, 'card_holds'). Laid BY PROGRAM, IN A SANDBOX (cutbox-door.mjs). By AI agents, Wed Nov 11 2026. No macro, syntax, notation, axiom, sorry.
-/
import Derived.Test.YtbpcgcmlpgdmbaaDoorRows
import GoSem.ClaimSeven
namespace Go.Proofs.YtbpcgcmlpgdmbaaDoor
namespace Rows

/-- THE TIED CARD OF 'usancelaw18.VmParts'. -/
def vmPartsCard : Claim7 := { stood := { row := vmPartsRow, standIns := [], harness := (true, "3919d1af3a0147c1162ed93a81a45efc4697189a2a3695ed3c8dde8bf4a82204"), looks := false }, kinds := [], alts := [], laidByText := true, laidKinds := [.data, .pinned], laidTests := true, laidLooks := .later }
def VmPartsCardSaid : Prop := Claim7.holds Tryd.pinned (.plain (OpenSpec.ofChange vmPartsSpec)) vmPartsCard

/-- THE SECOND FORM's CARD OF 'usancelaw18.VmParts'. -/
def vmPartsUptoCard : Claim7 := { stood := { row := vmPartsUptoRow, standIns := [], harness := (true, "3919d1af3a0147c1162ed93a81a45efc4697189a2a3695ed3c8dde8bf4a82204"), looks := false }, kinds := [], alts := [], laidByText := true, laidKinds := [.data, .pinned], laidTests := true, laidLooks := .later }
def VmPartsUptoCardSaid : Prop := Claim7.holds Tryd.pinned (.plain (OpenSpec.upto vmPartsSpec)) vmPartsUptoCard
end Rows
end Go.Proofs.YtbpcgcmlpgdmbaaDoor
