/-
  DERIVED. GIVEN WITH THE SEED: THE CARDS: each row of YtmmbhmlhenpgbaaDoorRows.lean that lists a variable, with what it lists TIED to the program's text (the seventh form; the later family's looks); each row that meets fmt, with fmt's text TOLD by the authors' own Lean function (tested against real Go, not proved from fmt's source: count such statements apart). THE CARD IS WHAT COUNTS. Prove the row's statement (the work); the ties are given (YtmmbhmlhenpgbaaDoorTie.lean); close each card by the builder's one call (the guide's Derived/Test/ToyasCard.lean, 'card_holds'). Laid BY PROGRAM, IN A SANDBOX (cutbox-door.mjs). By AI agents, Wed Nov 11 2026. No macro, syntax, notation, axiom, sorry.
-/
import Derived.Test.YtmmbhmlhenpgbaaDoorRows
import GoSem.ClaimSeven
namespace Go.Proofs.YtmmbhmlhenpgbaaDoor
namespace Rows

/-- THE TIED CARD OF 'usancelaw20.LedgerBytes'. -/
def ledgerBytesCard : Claim7 := { stood := { row := ledgerBytesRow, standIns := [], harness := (true, "4de222b86916a12a69dcf96935fb5c721a46e19d285e3c9588aa514312b2699e"), looks := true }, kinds := [], alts := [], laidByText := true, laidKinds := [.data, .pinned], laidTests := true, laidLooks := .later }
def LedgerBytesCardSaid : Prop := Claim7.holds Tryd.pinned (.plain (OpenSpec.ofChange ledgerBytesSpec)) ledgerBytesCard

/-- THE TIED CARD OF 'usancelaw20.LedgerBack'. -/
def ledgerBackCard : Claim7 := { stood := { row := ledgerBackRow, standIns := [], harness := (true, "4de222b86916a12a69dcf96935fb5c721a46e19d285e3c9588aa514312b2699e"), looks := true }, kinds := [], alts := [], laidByText := true, laidKinds := [.data, .pinned], laidTests := true, laidLooks := .later }
def LedgerBackCardSaid : Prop := Claim7.holds Tryd.pinned (.plain (OpenSpec.ofChange ledgerBackSpec)) ledgerBackCard

/-- THE TIED CARD OF 'usancelaw20.LedgerUndone'. -/
def ledgerUndoneCard : Claim7 := { stood := { row := ledgerUndoneRow, standIns := [], harness := (true, "4de222b86916a12a69dcf96935fb5c721a46e19d285e3c9588aa514312b2699e"), looks := true }, kinds := [], alts := [], laidByText := true, laidKinds := [.data, .pinned], laidTests := true, laidLooks := .later }
def LedgerUndoneCardSaid : Prop := Claim7.holds Tryd.pinned (.plain (OpenSpec.ofChange ledgerUndoneSpec)) ledgerUndoneCard

/-- THE TIED CARD OF 'usancelaw20.LedgerParts'. -/
def ledgerPartsCard : Claim7 := { stood := { row := ledgerPartsRow, standIns := [], harness := (true, "4de222b86916a12a69dcf96935fb5c721a46e19d285e3c9588aa514312b2699e"), looks := true }, kinds := [], alts := [], laidByText := true, laidKinds := [.data, .pinned], laidTests := true, laidLooks := .later }
def LedgerPartsCardSaid : Prop := Claim7.holds Tryd.pinned (.plain (OpenSpec.ofChange ledgerPartsSpec)) ledgerPartsCard

/-- THE TIED CARD OF 'usancelaw20.LedgerDoes'. -/
def ledgerDoesCard : Claim7 := { stood := { row := ledgerDoesRow, standIns := [], harness := (true, "4de222b86916a12a69dcf96935fb5c721a46e19d285e3c9588aa514312b2699e"), looks := true }, kinds := [], alts := [], laidByText := true, laidKinds := [.data, .pinned], laidTests := true, laidLooks := .later }
def LedgerDoesCardSaid : Prop := Claim7.holds Tryd.pinned (.plain (OpenSpec.ofChange ledgerDoesSpec)) ledgerDoesCard

/-- THE TIED CARD OF 'usancelaw20.LedgerZero'. -/
def ledgerZeroCard : Claim7 := { stood := { row := ledgerZeroRow, standIns := [], harness := (true, "4de222b86916a12a69dcf96935fb5c721a46e19d285e3c9588aa514312b2699e"), looks := true }, kinds := [], alts := [], laidByText := true, laidKinds := [.data, .pinned], laidTests := true, laidLooks := .later }
def LedgerZeroCardSaid : Prop := Claim7.holds Tryd.pinned (.plain (OpenSpec.ofChange ledgerZeroSpec)) ledgerZeroCard

/-- THE TIED CARD OF 'usancelaw20.LedgerNone'. -/
def ledgerNoneCard : Claim7 := { stood := { row := ledgerNoneRow, standIns := [], harness := (true, "4de222b86916a12a69dcf96935fb5c721a46e19d285e3c9588aa514312b2699e"), looks := true }, kinds := [], alts := [], laidByText := true, laidKinds := [.data, .pinned], laidTests := true, laidLooks := .later }
def LedgerNoneCardSaid : Prop := Claim7.holds Tryd.pinned (.plain (OpenSpec.ofChange ledgerNoneSpec)) ledgerNoneCard

/-- THE SECOND FORM's CARD OF 'usancelaw20.LedgerBytes'. -/
def ledgerBytesUptoCard : Claim7 := { stood := { row := ledgerBytesUptoRow, standIns := [], harness := (true, "4de222b86916a12a69dcf96935fb5c721a46e19d285e3c9588aa514312b2699e"), looks := true }, kinds := [], alts := [], laidByText := true, laidKinds := [.data, .pinned], laidTests := true, laidLooks := .later }
def LedgerBytesUptoCardSaid : Prop := Claim7.holds Tryd.pinned (.plain (OpenSpec.upto ledgerBytesSpec)) ledgerBytesUptoCard

/-- THE SECOND FORM's CARD OF 'usancelaw20.LedgerBack'. -/
def ledgerBackUptoCard : Claim7 := { stood := { row := ledgerBackUptoRow, standIns := [], harness := (true, "4de222b86916a12a69dcf96935fb5c721a46e19d285e3c9588aa514312b2699e"), looks := true }, kinds := [], alts := [], laidByText := true, laidKinds := [.data, .pinned], laidTests := true, laidLooks := .later }
def LedgerBackUptoCardSaid : Prop := Claim7.holds Tryd.pinned (.plain (OpenSpec.upto ledgerBackSpec)) ledgerBackUptoCard

/-- THE SECOND FORM's CARD OF 'usancelaw20.LedgerUndone'. -/
def ledgerUndoneUptoCard : Claim7 := { stood := { row := ledgerUndoneUptoRow, standIns := [], harness := (true, "4de222b86916a12a69dcf96935fb5c721a46e19d285e3c9588aa514312b2699e"), looks := true }, kinds := [], alts := [], laidByText := true, laidKinds := [.data, .pinned], laidTests := true, laidLooks := .later }
def LedgerUndoneUptoCardSaid : Prop := Claim7.holds Tryd.pinned (.plain (OpenSpec.upto ledgerUndoneSpec)) ledgerUndoneUptoCard

/-- THE SECOND FORM's CARD OF 'usancelaw20.LedgerParts'. -/
def ledgerPartsUptoCard : Claim7 := { stood := { row := ledgerPartsUptoRow, standIns := [], harness := (true, "4de222b86916a12a69dcf96935fb5c721a46e19d285e3c9588aa514312b2699e"), looks := true }, kinds := [], alts := [], laidByText := true, laidKinds := [.data, .pinned], laidTests := true, laidLooks := .later }
def LedgerPartsUptoCardSaid : Prop := Claim7.holds Tryd.pinned (.plain (OpenSpec.upto ledgerPartsSpec)) ledgerPartsUptoCard

/-- THE SECOND FORM's CARD OF 'usancelaw20.LedgerDoes'. -/
def ledgerDoesUptoCard : Claim7 := { stood := { row := ledgerDoesUptoRow, standIns := [], harness := (true, "4de222b86916a12a69dcf96935fb5c721a46e19d285e3c9588aa514312b2699e"), looks := true }, kinds := [], alts := [], laidByText := true, laidKinds := [.data, .pinned], laidTests := true, laidLooks := .later }
def LedgerDoesUptoCardSaid : Prop := Claim7.holds Tryd.pinned (.plain (OpenSpec.upto ledgerDoesSpec)) ledgerDoesUptoCard

/-- THE SECOND FORM's CARD OF 'usancelaw20.LedgerZero'. -/
def ledgerZeroUptoCard : Claim7 := { stood := { row := ledgerZeroUptoRow, standIns := [], harness := (true, "4de222b86916a12a69dcf96935fb5c721a46e19d285e3c9588aa514312b2699e"), looks := true }, kinds := [], alts := [], laidByText := true, laidKinds := [.data, .pinned], laidTests := true, laidLooks := .later }
def LedgerZeroUptoCardSaid : Prop := Claim7.holds Tryd.pinned (.plain (OpenSpec.upto ledgerZeroSpec)) ledgerZeroUptoCard

/-- THE SECOND FORM's CARD OF 'usancelaw20.LedgerNone'. -/
def ledgerNoneUptoCard : Claim7 := { stood := { row := ledgerNoneUptoRow, standIns := [], harness := (true, "4de222b86916a12a69dcf96935fb5c721a46e19d285e3c9588aa514312b2699e"), looks := true }, kinds := [], alts := [], laidByText := true, laidKinds := [.data, .pinned], laidTests := true, laidLooks := .later }
def LedgerNoneUptoCardSaid : Prop := Claim7.holds Tryd.pinned (.plain (OpenSpec.upto ledgerNoneSpec)) ledgerNoneUptoCard
end Rows
end Go.Proofs.YtmmbhmlhenpgbaaDoor
