/- Proved: the reference's text, place, as contracts. -/
import Derived.Test.YtbpcgcmlpgdmbaaDoorGenNum
import Derived.Test.YtbpcgcmlpgdmbaaDoorRefNames
import Derived.IntWalk
namespace Go.Proofs.YtbpcgcmlpgdmbaaDoor
open Go.RowKit
open Gen
set_option linter.unusedVariables false
set_option linter.unusedSimpArgs false
set_option maxRecDepth 100000
end Go.Proofs.YtbpcgcmlpgdmbaaDoor
