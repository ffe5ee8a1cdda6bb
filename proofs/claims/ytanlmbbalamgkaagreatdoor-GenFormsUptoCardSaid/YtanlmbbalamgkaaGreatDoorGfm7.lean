/- Proved: lemmas and contracts of the functions that the law reaches, part 7 of 31: NumNext. Conditions: as each states. -/
import Derived.Outline
import Derived.BigQuiet
import Derived.BigRegion
import Derived.Deep.QuietTactic
import Derived.StillTailTactics
import Derived.Laws.Runes
import Derived.Laws.Concat
import Derived.Laws.CopyOwn
import Derived.Test.YtanlmbbalamgkaaGreatDoorGfm5
namespace Go.Proofs.YtanlmbbalamgkaaGreatDoor
set_option linter.unusedVariables false
set_option linter.unusedSimpArgs false
end Go.Proofs.YtanlmbbalamgkaaGreatDoor
