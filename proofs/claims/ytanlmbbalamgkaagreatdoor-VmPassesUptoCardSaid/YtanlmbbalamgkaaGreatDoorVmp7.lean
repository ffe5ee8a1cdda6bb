/- Proved: lemmas and contracts of the functions that the law reaches, part 7 of 35: NumNext. Conditions: as each states. -/
import Derived.StillTailTactics
import Derived.Laws.CopyOwn
import Derived.Test.YtanlmbbalamgkaaGreatDoorVmp5
namespace Go.Proofs.YtanlmbbalamgkaaGreatDoor
set_option linter.unusedVariables false
set_option linter.unusedSimpArgs false
end Go.Proofs.YtanlmbbalamgkaaGreatDoor
