/- Proved: lemmas and contracts of the functions that the law reaches, part 28 of 36: OptRef1, OptRef4, OptRef5. Conditions: as each states. -/
import Derived.Test.YtanlmbbalamgkaaGreatDoorVmi26
namespace Go.Proofs.YtanlmbbalamgkaaGreatDoor
set_option linter.unusedVariables false
set_option linter.unusedSimpArgs false
end Go.Proofs.YtanlmbbalamgkaaGreatDoor
