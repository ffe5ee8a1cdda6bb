/-
  DERIVED. GIVEN WITH THE SEED: THE CARDS: each row of YtdbgoibodpacgaaDoorRows.lean that lists a variable, with what it lists TIED to the program's text (the seventh form; the later family's looks); each row that meets fmt, with fmt's text TOLD by the authors' own Lean function (tested against real Go, not proved from fmt's source: count such statements apart). THE CARD IS WHAT COUNTS. Prove the row's statement (the work); the ties are given (YtdbgoibodpacgaaDoorTie.lean); close each card by the builder's one call (the guide's Derived/Test/ToyasCard.lean, 'card_holds'). Laid BY PROGRAM, IN A SANDBOX (cutbox-door.mjs). By AI agents, Wed Nov 11 2026. No macro, syntax, notation, axiom, sorry.
-/
import Derived.Test.YtdbgoibodpacgaaDoorRows
import GoSem.ClaimSeven
namespace Go.Proofs.YtdbgoibodpacgaaDoor
namespace Rows

/-- THE TIED CARD OF 'usancelaw16.OptTwice'. -/
def optTwiceCard : Claim7 := { stood := { row := optTwiceRow, standIns := [], harness := (true, "f35d9aa3a403dfc4184af7d8ea649acbe45e4ecd8438673f011f84ed63d4d54f"), looks := false }, kinds := [], alts := [], laidByText := true, laidKinds := [.data, .pinned], laidTests := true, laidLooks := .later }
def OptTwiceCardSaid : Prop := Claim7.holds Tryd.pinned (.plain (OpenSpec.ofChange optTwiceSpec)) optTwiceCard

/-- THE TIED CARD OF 'usancelaw16.OptFolds'. -/
def optFoldsCard : Claim7 := { stood := { row := optFoldsRow, standIns := [], harness := (true, "f35d9aa3a403dfc4184af7d8ea649acbe45e4ecd8438673f011f84ed63d4d54f"), looks := false }, kinds := [], alts := [], laidByText := true, laidKinds := [.data, .pinned], laidTests := true, laidLooks := .later }
def OptFoldsCardSaid : Prop := Claim7.holds Tryd.pinned (.plain (OpenSpec.ofChange optFoldsSpec)) optFoldsCard

/-- THE TIED CARD OF 'usancelaw15.DenoteAgain'. -/
def denoteAgainCard : Claim7 := { stood := { row := denoteAgainRow, standIns := [], harness := (true, "f35d9aa3a403dfc4184af7d8ea649acbe45e4ecd8438673f011f84ed63d4d54f"), looks := false }, kinds := [], alts := [], laidByText := true, laidKinds := [.data, .pinned], laidTests := true, laidLooks := .later }
def DenoteAgainCardSaid : Prop := Claim7.holds Tryd.pinned (.plain (OpenSpec.ofChange denoteAgainSpec)) denoteAgainCard

/-- THE TIED CARD OF 'usancelaw15.DenoteLater'. -/
def denoteLaterCard : Claim7 := { stood := { row := denoteLaterRow, standIns := [], harness := (true, "f35d9aa3a403dfc4184af7d8ea649acbe45e4ecd8438673f011f84ed63d4d54f"), looks := false }, kinds := [], alts := [], laidByText := true, laidKinds := [.data, .pinned], laidTests := true, laidLooks := .later }
def DenoteLaterCardSaid : Prop := Claim7.holds Tryd.pinned (.plain (OpenSpec.ofChange denoteLaterSpec)) denoteLaterCard

/-- THE TIED CARD OF 'usancelaw15.DenoteParts'. -/
def denotePartsCard : Claim7 := { stood := { row := denotePartsRow, standIns := [], harness := (true, "f35d9aa3a403dfc4184af7d8ea649acbe45e4ecd8438673f011f84ed63d4d54f"), looks := false }, kinds := [], alts := [], laidByText := true, laidKinds := [.data, .pinned], laidTests := true, laidLooks := .later }
def DenotePartsCardSaid : Prop := Claim7.holds Tryd.pinned (.plain (OpenSpec.ofChange denotePartsSpec)) denotePartsCard

/-- THE TIED CARD OF 'usancelaw15.DenoteTimes'. -/
def denoteTimesCard : Claim7 := { stood := { row := denoteTimesRow, standIns := [], harness := (true, "f35d9aa3a403dfc4184af7d8ea649acbe45e4ecd8438673f011f84ed63d4d54f"), looks := false }, kinds := [], alts := [], laidByText := true, laidKinds := [.data, .pinned], laidTests := true, laidLooks := .later }
def DenoteTimesCardSaid : Prop := Claim7.holds Tryd.pinned (.plain (OpenSpec.ofChange denoteTimesSpec)) denoteTimesCard

/-- THE SECOND FORM's CARD OF 'usancelaw16.OptTwice'. -/
def optTwiceUptoCard : Claim7 := { stood := { row := optTwiceUptoRow, standIns := [], harness := (true, "f35d9aa3a403dfc4184af7d8ea649acbe45e4ecd8438673f011f84ed63d4d54f"), looks := false }, kinds := [], alts := [], laidByText := true, laidKinds := [.data, .pinned], laidTests := true, laidLooks := .later }
def OptTwiceUptoCardSaid : Prop := Claim7.holds Tryd.pinned (.plain (OpenSpec.upto optTwiceSpec)) optTwiceUptoCard

/-- THE SECOND FORM's CARD OF 'usancelaw16.OptFolds'. -/
def optFoldsUptoCard : Claim7 := { stood := { row := optFoldsUptoRow, standIns := [], harness := (true, "f35d9aa3a403dfc4184af7d8ea649acbe45e4ecd8438673f011f84ed63d4d54f"), looks := false }, kinds := [], alts := [], laidByText := true, laidKinds := [.data, .pinned], laidTests := true, laidLooks := .later }
def OptFoldsUptoCardSaid : Prop := Claim7.holds Tryd.pinned (.plain (OpenSpec.upto optFoldsSpec)) optFoldsUptoCard

/-- THE SECOND FORM's CARD OF 'usancelaw15.DenoteAgain'. -/
def denoteAgainUptoCard : Claim7 := { stood := { row := denoteAgainUptoRow, standIns := [], harness := (true, "f35d9aa3a403dfc4184af7d8ea649acbe45e4ecd8438673f011f84ed63d4d54f"), looks := false }, kinds := [], alts := [], laidByText := true, laidKinds := [.data, .pinned], laidTests := true, laidLooks := .later }
def DenoteAgainUptoCardSaid : Prop := Claim7.holds Tryd.pinned (.plain (OpenSpec.upto denoteAgainSpec)) denoteAgainUptoCard

/-- THE SECOND FORM's CARD OF 'usancelaw15.DenoteLater'. -/
def denoteLaterUptoCard : Claim7 := { stood := { row := denoteLaterUptoRow, standIns := [], harness := (true, "f35d9aa3a403dfc4184af7d8ea649acbe45e4ecd8438673f011f84ed63d4d54f"), looks := false }, kinds := [], alts := [], laidByText := true, laidKinds := [.data, .pinned], laidTests := true, laidLooks := .later }
def DenoteLaterUptoCardSaid : Prop := Claim7.holds Tryd.pinned (.plain (OpenSpec.upto denoteLaterSpec)) denoteLaterUptoCard

/-- THE SECOND FORM's CARD OF 'usancelaw15.DenoteParts'. -/
def denotePartsUptoCard : Claim7 := { stood := { row := denotePartsUptoRow, standIns := [], harness := (true, "f35d9aa3a403dfc4184af7d8ea649acbe45e4ecd8438673f011f84ed63d4d54f"), looks := false }, kinds := [], alts := [], laidByText := true, laidKinds := [.data, .pinned], laidTests := true, laidLooks := .later }
def DenotePartsUptoCardSaid : Prop := Claim7.holds Tryd.pinned (.plain (OpenSpec.upto denotePartsSpec)) denotePartsUptoCard

/-- THE SECOND FORM's CARD OF 'usancelaw15.DenoteTimes'. -/
def denoteTimesUptoCard : Claim7 := { stood := { row := denoteTimesUptoRow, standIns := [], harness := (true, "f35d9aa3a403dfc4184af7d8ea649acbe45e4ecd8438673f011f84ed63d4d54f"), looks := false }, kinds := [], alts := [], laidByText := true, laidKinds := [.data, .pinned], laidTests := true, laidLooks := .later }
def DenoteTimesUptoCardSaid : Prop := Claim7.holds Tryd.pinned (.plain (OpenSpec.upto denoteTimesSpec)) denoteTimesUptoCard
end Rows
end Go.Proofs.YtdbgoibodpacgaaDoor
