/- The program, by a short name. -/
import Derived.Test.YtcoofhpdkgkjcaaGreatDoorCubF
import Derived.Test.YtcoofhpdkgkjcaaGreatDoorProg
namespace Go.Proofs.YtcoofhpdkgkjcaaGreatDoor.F
set_option linter.unusedVariables false
set_option linter.unusedSimpArgs false
open Go Go.Cub
noncomputable abbrev P : Program := Tryz.prog
end Go.Proofs.YtcoofhpdkgkjcaaGreatDoor.F
