/- Proved: lemmas and contracts of the functions that the law reaches, part 13 of 35: NumShow. Conditions: as each states. -/
import Derived.Test.YtanlmbbalamgkaaGreatDoorVmpShl
import Derived.Test.YtanlmbbalamgkaaGreatDoorVmp7
namespace Go.Proofs.YtanlmbbalamgkaaGreatDoor
set_option linter.unusedVariables false
set_option linter.unusedSimpArgs false
end Go.Proofs.YtanlmbbalamgkaaGreatDoor
