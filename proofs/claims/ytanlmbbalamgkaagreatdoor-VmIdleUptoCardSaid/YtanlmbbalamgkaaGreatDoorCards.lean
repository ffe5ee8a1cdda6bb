/-
  DERIVED. GIVEN WITH THE SEED: THE CARDS: each row of YtanlmbbalamgkaaGreatDoorRows.lean that lists a variable, with what it lists TIED to the program's text (the seventh form; the later family's looks); each row that meets fmt, with fmt's text TOLD by the authors' own Lean function (tested against real Go, not proved from fmt's source: count such statements apart). THE CARD IS WHAT COUNTS. Prove the row's statement (the work); the ties are given (YtanlmbbalamgkaaGreatDoorTie.lean); close each card by the builder's one call (the guide's Derived/Test/ToyasCard.lean, 'card_holds'). Laid BY PROGRAM, IN A SANDBOX (cutbox-door.mjs). By AI agents, Wed Nov 11 2026. No macro, syntax, notation, axiom, sorry.
-/
import Derived.Test.YtanlmbbalamgkaaGreatDoorRows
import GoSem.ClaimSeven
namespace Go.Proofs.YtanlmbbalamgkaaGreatDoor
namespace Rows

/-- THE TIED CARD OF 'usancelaw17.GenForms'. -/
def genFormsCard : Claim7 := { stood := { row := genFormsRow, standIns := [], harness := (true, "1a0f702b0ded9a3f980ed76d0822e18e4e2f11a281c66c80cad97916e927cf61"), looks := true }, kinds := [], alts := [], laidByText := true, laidKinds := [.data, .pinned], laidTests := true, laidLooks := .later }
def GenFormsCardSaid : Prop := Claim7.holds Tryz.pinned (.plain (OpenSpec.ofChange genFormsSpec)) genFormsCard

/-- THE TIED CARD OF 'usancelaw18.VmPasses'. -/
def vmPassesCard : Claim7 := { stood := { row := vmPassesRow, standIns := [], harness := (true, "1a0f702b0ded9a3f980ed76d0822e18e4e2f11a281c66c80cad97916e927cf61"), looks := true }, kinds := [], alts := [], laidByText := true, laidKinds := [.data, .pinned], laidTests := true, laidLooks := .later }
def VmPassesCardSaid : Prop := Claim7.holds Tryz.pinned (.plain (OpenSpec.ofChange vmPassesSpec)) vmPassesCard

/-- THE TIED CARD OF 'usancelaw18.VmIdle'. -/
def vmIdleCard : Claim7 := { stood := { row := vmIdleRow, standIns := [], harness := (true, "1a0f702b0ded9a3f980ed76d0822e18e4e2f11a281c66c80cad97916e927cf61"), looks := true }, kinds := [], alts := [], laidByText := true, laidKinds := [.data, .pinned], laidTests := true, laidLooks := .later }
def VmIdleCardSaid : Prop := Claim7.holds Tryz.pinned (.plain (OpenSpec.ofChange vmIdleSpec)) vmIdleCard

/-- THE SECOND FORM's CARD OF 'usancelaw17.GenForms'. -/
def genFormsUptoCard : Claim7 := { stood := { row := genFormsUptoRow, standIns := [], harness := (true, "1a0f702b0ded9a3f980ed76d0822e18e4e2f11a281c66c80cad97916e927cf61"), looks := true }, kinds := [], alts := [], laidByText := true, laidKinds := [.data, .pinned], laidTests := true, laidLooks := .later }
def GenFormsUptoCardSaid : Prop := Claim7.holds Tryz.pinned (.plain (OpenSpec.upto genFormsSpec)) genFormsUptoCard

/-- THE SECOND FORM's CARD OF 'usancelaw18.VmPasses'. -/
def vmPassesUptoCard : Claim7 := { stood := { row := vmPassesUptoRow, standIns := [], harness := (true, "1a0f702b0ded9a3f980ed76d0822e18e4e2f11a281c66c80cad97916e927cf61"), looks := true }, kinds := [], alts := [], laidByText := true, laidKinds := [.data, .pinned], laidTests := true, laidLooks := .later }
def VmPassesUptoCardSaid : Prop := Claim7.holds Tryz.pinned (.plain (OpenSpec.upto vmPassesSpec)) vmPassesUptoCard

/-- THE SECOND FORM's CARD OF 'usancelaw18.VmIdle'. -/
def vmIdleUptoCard : Claim7 := { stood := { row := vmIdleUptoRow, standIns := [], harness := (true, "1a0f702b0ded9a3f980ed76d0822e18e4e2f11a281c66c80cad97916e927cf61"), looks := true }, kinds := [], alts := [], laidByText := true, laidKinds := [.data, .pinned], laidTests := true, laidLooks := .later }
def VmIdleUptoCardSaid : Prop := Claim7.holds Tryz.pinned (.plain (OpenSpec.upto vmIdleSpec)) vmIdleUptoCard
end Rows
end Go.Proofs.YtanlmbbalamgkaaGreatDoor
