/- Proved: the reference's has, register as contracts. -/
import Derived.Test.YtbpcgcmlpgdmbaaDoorBase
import Derived.Test.YtbpcgcmlpgdmbaaDoorGenUses
import Derived.IntWalk
namespace Go.Proofs.YtbpcgcmlpgdmbaaDoor
open Go.RowKit
open Gen
set_option linter.unusedVariables false
set_option linter.unusedSimpArgs false
set_option maxRecDepth 100000
end Go.Proofs.YtbpcgcmlpgdmbaaDoor
