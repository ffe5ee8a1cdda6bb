/- Proved: lemmas and contracts of the functions that the law reaches, part 1 of 35: WirePlain. Conditions: as each states. -/
namespace Go.Proofs.YtanlmbbalamgkaaGreatDoor
set_option linter.unusedVariables false
set_option linter.unusedSimpArgs false
end Go.Proofs.YtanlmbbalamgkaaGreatDoor
