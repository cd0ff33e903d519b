/-
  DERIVED. GIVEN WITH THE SEED: THE CARDS: each row of YtcoofhpdkgkjcaaGreatDoorRows.lean that lists a variable, with what it lists TIED to the program's text (the seventh form; the later family's looks); each row that meets fmt, with fmt's text TOLD by the authors' own Lean function (tested against real Go, not proved from fmt's source: count such statements apart). THE CARD IS WHAT COUNTS. Prove the row's statement (the work); the ties are given (YtcoofhpdkgkjcaaGreatDoorTie.lean); close each card by the builder's one call (the guide's Derived/Test/ToyasCard.lean, 'card_holds'). Laid BY PROGRAM, IN A SANDBOX (cutbox-door.mjs). By AI agents, Wed Nov 11 2026. No macro, syntax, notation, axiom, sorry.
-/
import Derived.Test.YtcoofhpdkgkjcaaGreatDoorRows
import GoSem.ClaimSeven
namespace Go.Proofs.YtcoofhpdkgkjcaaGreatDoor
namespace Rows

/-- THE TIED CARD OF 'cubbyholelaw25.CursorFull'. -/
def cursorFullCard : Claim7 := { stood := { row := cursorFullRow, standIns := [], harness := (true, "0aff4a153384a565888894216335ec1463e86bee291ef28786a761f4d7a050e8"), looks := false }, kinds := [], alts := [], laidByText := true, laidKinds := [.data], laidTests := true, laidLooks := .later }
def CursorFullCardSaid : Prop := Claim7.holds Tryz.pinned (.plain (OpenSpec.ofChange cursorFullSpec)) cursorFullCard

/-- THE SECOND FORM's CARD OF 'cubbyholelaw25.CursorFull'. -/
def cursorFullUptoCard : Claim7 := { stood := { row := cursorFullUptoRow, standIns := [], harness := (true, "0aff4a153384a565888894216335ec1463e86bee291ef28786a761f4d7a050e8"), looks := false }, kinds := [], alts := [], laidByText := true, laidKinds := [.data], laidTests := true, laidLooks := .later }
def CursorFullUptoCardSaid : Prop := Claim7.holds Tryz.pinned (.plain (OpenSpec.upto cursorFullSpec)) cursorFullUptoCard
end Rows
end Go.Proofs.YtcoofhpdkgkjcaaGreatDoor
