/-
  DERIVED. GIVEN WITH THE SEED: THE CARDS: each row of YtmddaomchhigbaaGreatDoorRows.lean that lists a variable, with what it lists TIED to the program's text (the seventh form; the later family's looks); each row that meets fmt, with fmt's text TOLD by the authors' own Lean function (tested against real Go, not proved from fmt's source: count such statements apart). THE CARD IS WHAT COUNTS. Prove the row's statement (the work); the ties are given (YtmddaomchhigbaaGreatDoorTie.lean); close each card by the builder's one call (the guide's Derived/Test/ToyasCard.lean, 'card_holds'). Laid BY PROGRAM, IN A SANDBOX (cutbox-door.mjs). By AI agents, Wed Nov 11 2026. No macro, syntax, notation, axiom, sorry.
-/
import Derived.Test.YtmddaomchhigbaaGreatDoorRows
import GoSem.ClaimSeven
namespace Go.Proofs.YtmddaomchhigbaaGreatDoor
namespace Rows

/-- THE TIED CARD OF 'usancelaw21.OracleBytes'. -/
def oracleBytesCard : Claim7 := { stood := { row := oracleBytesRow, standIns := [], harness := (true, "e70139940ce9930e1a5ec12b44c2aa2388eed9a599deb2e0c156d5cc6cbe4292"), looks := true }, kinds := [], alts := [], laidByText := true, laidKinds := [.data, .handle, .data, .pinned], laidTests := true, laidLooks := .later }
def OracleBytesCardSaid : Prop := Claim7.holds Tryz.pinned (.plain (OpenSpec.ofChange oracleBytesSpec)) oracleBytesCard

/-- THE TIED CARD OF 'usancelaw21.OracleBack'. -/
def oracleBackCard : Claim7 := { stood := { row := oracleBackRow, standIns := [], harness := (true, "e70139940ce9930e1a5ec12b44c2aa2388eed9a599deb2e0c156d5cc6cbe4292"), looks := true }, kinds := [], alts := [], laidByText := true, laidKinds := [.data, .handle, .data, .pinned], laidTests := true, laidLooks := .later }
def OracleBackCardSaid : Prop := Claim7.holds Tryz.pinned (.plain (OpenSpec.ofChange oracleBackSpec)) oracleBackCard

/-- THE TIED CARD OF 'usancelaw21.OracleDoes'. -/
def oracleDoesCard : Claim7 := { stood := { row := oracleDoesRow, standIns := [], harness := (true, "e70139940ce9930e1a5ec12b44c2aa2388eed9a599deb2e0c156d5cc6cbe4292"), looks := true }, kinds := [], alts := [], laidByText := true, laidKinds := [.data, .handle, .data, .pinned], laidTests := true, laidLooks := .later }
def OracleDoesCardSaid : Prop := Claim7.holds Tryz.pinned (.plain (OpenSpec.ofChange oracleDoesSpec)) oracleDoesCard

/-- THE TIED CARD OF 'usancelaw21.OracleTakes'. -/
def oracleTakesCard : Claim7 := { stood := { row := oracleTakesRow, standIns := [], harness := (true, "e70139940ce9930e1a5ec12b44c2aa2388eed9a599deb2e0c156d5cc6cbe4292"), looks := true }, kinds := [], alts := [], laidByText := true, laidKinds := [.data, .handle, .data, .pinned], laidTests := true, laidLooks := .later }
def OracleTakesCardSaid : Prop := Claim7.holds Tryz.pinned (.plain (OpenSpec.ofChange oracleTakesSpec)) oracleTakesCard

/-- THE TIED CARD OF 'usancelaw21.OracleNone'. -/
def oracleNoneCard : Claim7 := { stood := { row := oracleNoneRow, standIns := [], harness := (true, "e70139940ce9930e1a5ec12b44c2aa2388eed9a599deb2e0c156d5cc6cbe4292"), looks := true }, kinds := [], alts := [], laidByText := true, laidKinds := [.data, .handle, .data, .pinned], laidTests := true, laidLooks := .later }
def OracleNoneCardSaid : Prop := Claim7.holds Tryz.pinned (.plain (OpenSpec.ofChange oracleNoneSpec)) oracleNoneCard

/-- THE TIED CARD OF 'usancelaw21.OracleApart'. -/
def oracleApartCard : Claim7 := { stood := { row := oracleApartRow, standIns := [], harness := (true, "e70139940ce9930e1a5ec12b44c2aa2388eed9a599deb2e0c156d5cc6cbe4292"), looks := true }, kinds := [], alts := [], laidByText := true, laidKinds := [.data, .handle, .data, .pinned], laidTests := true, laidLooks := .later }
def OracleApartCardSaid : Prop := Claim7.holds Tryz.pinned (.plain (OpenSpec.ofChange oracleApartSpec)) oracleApartCard

/-- THE SECOND FORM's CARD OF 'usancelaw21.OracleBytes'. -/
def oracleBytesUptoCard : Claim7 := { stood := { row := oracleBytesUptoRow, standIns := [], harness := (true, "e70139940ce9930e1a5ec12b44c2aa2388eed9a599deb2e0c156d5cc6cbe4292"), looks := true }, kinds := [], alts := [], laidByText := true, laidKinds := [.data, .handle, .data, .pinned], laidTests := true, laidLooks := .later }
def OracleBytesUptoCardSaid : Prop := Claim7.holds Tryz.pinned (.plain (OpenSpec.upto oracleBytesSpec)) oracleBytesUptoCard

/-- THE SECOND FORM's CARD OF 'usancelaw21.OracleBack'. -/
def oracleBackUptoCard : Claim7 := { stood := { row := oracleBackUptoRow, standIns := [], harness := (true, "e70139940ce9930e1a5ec12b44c2aa2388eed9a599deb2e0c156d5cc6cbe4292"), looks := true }, kinds := [], alts := [], laidByText := true, laidKinds := [.data, .handle, .data, .pinned], laidTests := true, laidLooks := .later }
def OracleBackUptoCardSaid : Prop := Claim7.holds Tryz.pinned (.plain (OpenSpec.upto oracleBackSpec)) oracleBackUptoCard

/-- THE SECOND FORM's CARD OF 'usancelaw21.OracleDoes'. -/
def oracleDoesUptoCard : Claim7 := { stood := { row := oracleDoesUptoRow, standIns := [], harness := (true, "e70139940ce9930e1a5ec12b44c2aa2388eed9a599deb2e0c156d5cc6cbe4292"), looks := true }, kinds := [], alts := [], laidByText := true, laidKinds := [.data, .handle, .data, .pinned], laidTests := true, laidLooks := .later }
def OracleDoesUptoCardSaid : Prop := Claim7.holds Tryz.pinned (.plain (OpenSpec.upto oracleDoesSpec)) oracleDoesUptoCard

/-- THE SECOND FORM's CARD OF 'usancelaw21.OracleTakes'. -/
def oracleTakesUptoCard : Claim7 := { stood := { row := oracleTakesUptoRow, standIns := [], harness := (true, "e70139940ce9930e1a5ec12b44c2aa2388eed9a599deb2e0c156d5cc6cbe4292"), looks := true }, kinds := [], alts := [], laidByText := true, laidKinds := [.data, .handle, .data, .pinned], laidTests := true, laidLooks := .later }
def OracleTakesUptoCardSaid : Prop := Claim7.holds Tryz.pinned (.plain (OpenSpec.upto oracleTakesSpec)) oracleTakesUptoCard

/-- THE SECOND FORM's CARD OF 'usancelaw21.OracleNone'. -/
def oracleNoneUptoCard : Claim7 := { stood := { row := oracleNoneUptoRow, standIns := [], harness := (true, "e70139940ce9930e1a5ec12b44c2aa2388eed9a599deb2e0c156d5cc6cbe4292"), looks := true }, kinds := [], alts := [], laidByText := true, laidKinds := [.data, .handle, .data, .pinned], laidTests := true, laidLooks := .later }
def OracleNoneUptoCardSaid : Prop := Claim7.holds Tryz.pinned (.plain (OpenSpec.upto oracleNoneSpec)) oracleNoneUptoCard

/-- THE SECOND FORM's CARD OF 'usancelaw21.OracleApart'. -/
def oracleApartUptoCard : Claim7 := { stood := { row := oracleApartUptoRow, standIns := [], harness := (true, "e70139940ce9930e1a5ec12b44c2aa2388eed9a599deb2e0c156d5cc6cbe4292"), looks := true }, kinds := [], alts := [], laidByText := true, laidKinds := [.data, .handle, .data, .pinned], laidTests := true, laidLooks := .later }
def OracleApartUptoCardSaid : Prop := Claim7.holds Tryz.pinned (.plain (OpenSpec.upto oracleApartSpec)) oracleApartUptoCard
end Rows
end Go.Proofs.YtmddaomchhigbaaGreatDoor
