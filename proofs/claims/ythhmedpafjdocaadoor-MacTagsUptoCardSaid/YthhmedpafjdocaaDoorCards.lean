/-
  DERIVED. GIVEN WITH THE SEED: THE CARDS: each row of YthhmedpafjdocaaDoorRows.lean that lists a variable, with what it lists TIED to the program's text (the seventh form; the later family's looks); each row that meets fmt, with fmt's text TOLD by the authors' own Lean function (tested against real Go, not proved from fmt's source: count such statements apart). THE CARD IS WHAT COUNTS. Prove the row's statement (the work); the ties are given (YthhmedpafjdocaaDoorTie.lean); close each card by the builder's one call (the guide's Derived/Test/ToyasCard.lean, 'card_holds'). Laid BY PROGRAM, IN A SANDBOX (cutbox-door.mjs). By AI agents, Wed Nov 11 2026. No macro, syntax, notation, axiom, sorry.
-/
import Derived.Test.YthhmedpafjdocaaDoorRows
import GoSem.ClaimSeven
namespace Go.Proofs.YthhmedpafjdocaaDoor
namespace Rows

/-- THE TIED CARD OF 'usancelaw05.MacSums'. -/
def macSumsCard : Claim7 := { stood := { row := macSumsRow, standIns := [], harness := (true, "da66992f35c4aaddd45fda720d4792783fbc10fb005ebe7db15afbaacfa0addf"), looks := false }, kinds := [], alts := [], laidByText := true, laidKinds := [.data], laidTests := true, laidLooks := .later }
def MacSumsCardSaid : Prop := Claim7.holds Tryd.pinned (.plain (OpenSpec.ofChange macSumsSpec)) macSumsCard

/-- THE TIED CARD OF 'usancelaw05.MacTags'. -/
def macTagsCard : Claim7 := { stood := { row := macTagsRow, standIns := [], harness := (true, "da66992f35c4aaddd45fda720d4792783fbc10fb005ebe7db15afbaacfa0addf"), looks := false }, kinds := [], alts := [], laidByText := true, laidKinds := [.data], laidTests := true, laidLooks := .later }
def MacTagsCardSaid : Prop := Claim7.holds Tryd.pinned (.plain (OpenSpec.ofChange macTagsSpec)) macTagsCard

/-- THE TIED CARD OF 'usancelaw05.MacParts'. -/
def macPartsCard : Claim7 := { stood := { row := macPartsRow, standIns := [], harness := (true, "da66992f35c4aaddd45fda720d4792783fbc10fb005ebe7db15afbaacfa0addf"), looks := false }, kinds := [], alts := [], laidByText := true, laidKinds := [.data], laidTests := true, laidLooks := .later }
def MacPartsCardSaid : Prop := Claim7.holds Tryd.pinned (.plain (OpenSpec.ofChange macPartsSpec)) macPartsCard

/-- THE TIED CARD OF 'usancelaw05.MacKeys'. -/
def macKeysCard : Claim7 := { stood := { row := macKeysRow, standIns := [], harness := (true, "da66992f35c4aaddd45fda720d4792783fbc10fb005ebe7db15afbaacfa0addf"), looks := false }, kinds := [], alts := [], laidByText := true, laidKinds := [.data], laidTests := true, laidLooks := .later }
def MacKeysCardSaid : Prop := Claim7.holds Tryd.pinned (.plain (OpenSpec.ofChange macKeysSpec)) macKeysCard

/-- THE TIED CARD OF 'usancelaw05.MacHex'. -/
def macHexCard : Claim7 := { stood := { row := macHexRow, standIns := [], harness := (true, "da66992f35c4aaddd45fda720d4792783fbc10fb005ebe7db15afbaacfa0addf"), looks := false }, kinds := [], alts := [], laidByText := true, laidKinds := [.data], laidTests := true, laidLooks := .later }
def MacHexCardSaid : Prop := Claim7.holds Tryd.pinned (.plain (OpenSpec.ofChange macHexSpec)) macHexCard

/-- THE TIED CARD OF 'usancelaw05.MacBack'. -/
def macBackCard : Claim7 := { stood := { row := macBackRow, standIns := [], harness := (true, "da66992f35c4aaddd45fda720d4792783fbc10fb005ebe7db15afbaacfa0addf"), looks := false }, kinds := [], alts := [], laidByText := true, laidKinds := [.data], laidTests := true, laidLooks := .later }
def MacBackCardSaid : Prop := Claim7.holds Tryd.pinned (.plain (OpenSpec.ofChange macBackSpec)) macBackCard

/-- THE SECOND FORM's CARD OF 'usancelaw05.MacSums'. -/
def macSumsUptoCard : Claim7 := { stood := { row := macSumsUptoRow, standIns := [], harness := (true, "da66992f35c4aaddd45fda720d4792783fbc10fb005ebe7db15afbaacfa0addf"), looks := false }, kinds := [], alts := [], laidByText := true, laidKinds := [.data], laidTests := true, laidLooks := .later }
def MacSumsUptoCardSaid : Prop := Claim7.holds Tryd.pinned (.plain (OpenSpec.upto macSumsSpec)) macSumsUptoCard

/-- THE SECOND FORM's CARD OF 'usancelaw05.MacTags'. -/
def macTagsUptoCard : Claim7 := { stood := { row := macTagsUptoRow, standIns := [], harness := (true, "da66992f35c4aaddd45fda720d4792783fbc10fb005ebe7db15afbaacfa0addf"), looks := false }, kinds := [], alts := [], laidByText := true, laidKinds := [.data], laidTests := true, laidLooks := .later }
def MacTagsUptoCardSaid : Prop := Claim7.holds Tryd.pinned (.plain (OpenSpec.upto macTagsSpec)) macTagsUptoCard

/-- THE SECOND FORM's CARD OF 'usancelaw05.MacParts'. -/
def macPartsUptoCard : Claim7 := { stood := { row := macPartsUptoRow, standIns := [], harness := (true, "da66992f35c4aaddd45fda720d4792783fbc10fb005ebe7db15afbaacfa0addf"), looks := false }, kinds := [], alts := [], laidByText := true, laidKinds := [.data], laidTests := true, laidLooks := .later }
def MacPartsUptoCardSaid : Prop := Claim7.holds Tryd.pinned (.plain (OpenSpec.upto macPartsSpec)) macPartsUptoCard

/-- THE SECOND FORM's CARD OF 'usancelaw05.MacKeys'. -/
def macKeysUptoCard : Claim7 := { stood := { row := macKeysUptoRow, standIns := [], harness := (true, "da66992f35c4aaddd45fda720d4792783fbc10fb005ebe7db15afbaacfa0addf"), looks := false }, kinds := [], alts := [], laidByText := true, laidKinds := [.data], laidTests := true, laidLooks := .later }
def MacKeysUptoCardSaid : Prop := Claim7.holds Tryd.pinned (.plain (OpenSpec.upto macKeysSpec)) macKeysUptoCard

/-- THE SECOND FORM's CARD OF 'usancelaw05.MacHex'. -/
def macHexUptoCard : Claim7 := { stood := { row := macHexUptoRow, standIns := [], harness := (true, "da66992f35c4aaddd45fda720d4792783fbc10fb005ebe7db15afbaacfa0addf"), looks := false }, kinds := [], alts := [], laidByText := true, laidKinds := [.data], laidTests := true, laidLooks := .later }
def MacHexUptoCardSaid : Prop := Claim7.holds Tryd.pinned (.plain (OpenSpec.upto macHexSpec)) macHexUptoCard

/-- THE SECOND FORM's CARD OF 'usancelaw05.MacBack'. -/
def macBackUptoCard : Claim7 := { stood := { row := macBackUptoRow, standIns := [], harness := (true, "da66992f35c4aaddd45fda720d4792783fbc10fb005ebe7db15afbaacfa0addf"), looks := false }, kinds := [], alts := [], laidByText := true, laidKinds := [.data], laidTests := true, laidLooks := .later }
def MacBackUptoCardSaid : Prop := Claim7.holds Tryd.pinned (.plain (OpenSpec.upto macBackSpec)) macBackUptoCard
end Rows
end Go.Proofs.YthhmedpafjdocaaDoor
