/-
  DERIVED. GIVEN WITH THE SEED: THE CARDS: each row of YtcpobnknmegkmaaDoorRows.lean that lists a variable, with what it lists TIED to the program's text (the seventh form; the later family's looks); each row that meets fmt, with fmt's text TOLD by the authors' own Lean function (tested against real Go, not proved from fmt's source: count such statements apart). THE CARD IS WHAT COUNTS. Prove the row's statement (the work); the ties are given (YtcpobnknmegkmaaDoorTie.lean); close each card by the builder's one call (the guide's Derived/Test/ToyasCard.lean, 'card_holds'). Laid BY PROGRAM, IN A SANDBOX (cutbox-door.mjs). By AI agents, Wed Nov 11 2026. No macro, syntax, notation, axiom, sorry.
-/
import Derived.Test.YtcpobnknmegkmaaDoorRows
import GoSem.ClaimSeven
namespace Go.Proofs.YtcpobnknmegkmaaDoor
namespace Rows

/-- THE TIED CARD OF 'usancelaw15.DenoteAgain'. -/
def denoteAgainCard : Claim7 := { stood := { row := denoteAgainRow, standIns := [], harness := (true, "fab95d35932cb325fe4201ee6e3a145ef26d38cd599015d92ed1e83743025fc7"), looks := false }, kinds := [], alts := [], laidByText := true, laidKinds := [.data, .pinned], laidTests := true, laidLooks := .later }
def DenoteAgainCardSaid : Prop := Claim7.holds Tryd.pinned (.plain (OpenSpec.ofChange denoteAgainSpec)) denoteAgainCard

/-- THE TIED CARD OF 'usancelaw15.DenoteLater'. -/
def denoteLaterCard : Claim7 := { stood := { row := denoteLaterRow, standIns := [], harness := (true, "fab95d35932cb325fe4201ee6e3a145ef26d38cd599015d92ed1e83743025fc7"), looks := false }, kinds := [], alts := [], laidByText := true, laidKinds := [.data, .pinned], laidTests := true, laidLooks := .later }
def DenoteLaterCardSaid : Prop := Claim7.holds Tryd.pinned (.plain (OpenSpec.ofChange denoteLaterSpec)) denoteLaterCard

/-- THE TIED CARD OF 'usancelaw15.DenoteParts'. -/
def denotePartsCard : Claim7 := { stood := { row := denotePartsRow, standIns := [], harness := (true, "fab95d35932cb325fe4201ee6e3a145ef26d38cd599015d92ed1e83743025fc7"), looks := false }, kinds := [], alts := [], laidByText := true, laidKinds := [.data, .pinned], laidTests := true, laidLooks := .later }
def DenotePartsCardSaid : Prop := Claim7.holds Tryd.pinned (.plain (OpenSpec.ofChange denotePartsSpec)) denotePartsCard

/-- THE TIED CARD OF 'usancelaw15.DenoteTimes'. -/
def denoteTimesCard : Claim7 := { stood := { row := denoteTimesRow, standIns := [], harness := (true, "fab95d35932cb325fe4201ee6e3a145ef26d38cd599015d92ed1e83743025fc7"), looks := false }, kinds := [], alts := [], laidByText := true, laidKinds := [.data, .pinned], laidTests := true, laidLooks := .later }
def DenoteTimesCardSaid : Prop := Claim7.holds Tryd.pinned (.plain (OpenSpec.ofChange denoteTimesSpec)) denoteTimesCard

/-- THE SECOND FORM's CARD OF 'usancelaw15.DenoteAgain'. -/
def denoteAgainUptoCard : Claim7 := { stood := { row := denoteAgainUptoRow, standIns := [], harness := (true, "fab95d35932cb325fe4201ee6e3a145ef26d38cd599015d92ed1e83743025fc7"), looks := false }, kinds := [], alts := [], laidByText := true, laidKinds := [.data, .pinned], laidTests := true, laidLooks := .later }
def DenoteAgainUptoCardSaid : Prop := Claim7.holds Tryd.pinned (.plain (OpenSpec.upto denoteAgainSpec)) denoteAgainUptoCard

/-- THE SECOND FORM's CARD OF 'usancelaw15.DenoteLater'. -/
def denoteLaterUptoCard : Claim7 := { stood := { row := denoteLaterUptoRow, standIns := [], harness := (true, "fab95d35932cb325fe4201ee6e3a145ef26d38cd599015d92ed1e83743025fc7"), looks := false }, kinds := [], alts := [], laidByText := true, laidKinds := [.data, .pinned], laidTests := true, laidLooks := .later }
def DenoteLaterUptoCardSaid : Prop := Claim7.holds Tryd.pinned (.plain (OpenSpec.upto denoteLaterSpec)) denoteLaterUptoCard

/-- THE SECOND FORM's CARD OF 'usancelaw15.DenoteParts'. -/
def denotePartsUptoCard : Claim7 := { stood := { row := denotePartsUptoRow, standIns := [], harness := (true, "fab95d35932cb325fe4201ee6e3a145ef26d38cd599015d92ed1e83743025fc7"), looks := false }, kinds := [], alts := [], laidByText := true, laidKinds := [.data, .pinned], laidTests := true, laidLooks := .later }
def DenotePartsUptoCardSaid : Prop := Claim7.holds Tryd.pinned (.plain (OpenSpec.upto denotePartsSpec)) denotePartsUptoCard

/-- THE SECOND FORM's CARD OF 'usancelaw15.DenoteTimes'. -/
def denoteTimesUptoCard : Claim7 := { stood := { row := denoteTimesUptoRow, standIns := [], harness := (true, "fab95d35932cb325fe4201ee6e3a145ef26d38cd599015d92ed1e83743025fc7"), looks := false }, kinds := [], alts := [], laidByText := true, laidKinds := [.data, .pinned], laidTests := true, laidLooks := .later }
def DenoteTimesUptoCardSaid : Prop := Claim7.holds Tryd.pinned (.plain (OpenSpec.upto denoteTimesSpec)) denoteTimesUptoCard
end Rows
end Go.Proofs.YtcpobnknmegkmaaDoor
