/- Proved: lemmas and contracts of the functions that the law reaches, part 11 of 31: FeedMem. Conditions: as each states. -/
import Derived.Sort.Walk0
import Derived.Test.YtanlmbbalamgkaaGreatDoorGfm2
import Derived.Test.YtanlmbbalamgkaaGreatDoorGfm5
import Derived.Test.YtanlmbbalamgkaaGreatDoorGfm8
namespace Go.Proofs.YtanlmbbalamgkaaGreatDoor
set_option linter.unusedVariables false
set_option linter.unusedSimpArgs false
end Go.Proofs.YtanlmbbalamgkaaGreatDoor
