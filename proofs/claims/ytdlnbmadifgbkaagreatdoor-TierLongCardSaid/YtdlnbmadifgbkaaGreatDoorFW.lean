/- The program, by a short name. -/
import Derived.Test.YtdlnbmadifgbkaaGreatDoorCubF
import Derived.Test.YtdlnbmadifgbkaaGreatDoorProg
namespace Go.Proofs.YtdlnbmadifgbkaaGreatDoor.F
set_option linter.unusedVariables false
set_option linter.unusedSimpArgs false
open Go Go.Cub
noncomputable abbrev P : Program := Tryz.prog
end Go.Proofs.YtdlnbmadifgbkaaGreatDoor.F
