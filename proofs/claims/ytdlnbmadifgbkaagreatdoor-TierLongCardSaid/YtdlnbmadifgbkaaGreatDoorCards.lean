/-
  DERIVED. GIVEN WITH THE SEED: THE CARDS: each row of YtdlnbmadifgbkaaGreatDoorRows.lean that lists a variable, with what it lists TIED to the program's text (the seventh form; the later family's looks); each row that meets fmt, with fmt's text TOLD by the authors' own Lean function (tested against real Go, not proved from fmt's source: count such statements apart). THE CARD IS WHAT COUNTS. Prove the row's statement (the work); the ties are given (YtdlnbmadifgbkaaGreatDoorTie.lean); close each card by the builder's one call (the guide's Derived/Test/ToyasCard.lean, 'card_holds'). Laid BY PROGRAM, IN A SANDBOX (cutbox-door.mjs). By AI agents, Wed Nov 11 2026. No macro, syntax, notation, axiom, sorry.
-/
import Derived.Test.YtdlnbmadifgbkaaGreatDoorRows
import GoSem.ClaimSeven
namespace Go.Proofs.YtdlnbmadifgbkaaGreatDoor
namespace Rows

/-- THE TIED CARD OF 'cubbyholelaw42.TierLong'. -/
def tierLongCard : Claim7 := { stood := { row := tierLongRow, standIns := [], harness := (true, "e8a9c7dcf78b96be4e7d41a09d0f19d0c800f98967f6aeb65799218a7594bc9b"), looks := false }, kinds := [], alts := [], laidByText := true, laidKinds := [.data], laidTests := true, laidLooks := .later }
def TierLongCardSaid : Prop := Claim7.holds Tryz.pinned (.plain (OpenSpec.ofChange tierLongSpec)) tierLongCard

/-- THE SECOND FORM's CARD OF 'cubbyholelaw42.TierLong'. -/
def tierLongUptoCard : Claim7 := { stood := { row := tierLongUptoRow, standIns := [], harness := (true, "e8a9c7dcf78b96be4e7d41a09d0f19d0c800f98967f6aeb65799218a7594bc9b"), looks := false }, kinds := [], alts := [], laidByText := true, laidKinds := [.data], laidTests := true, laidLooks := .later }
def TierLongUptoCardSaid : Prop := Claim7.holds Tryz.pinned (.plain (OpenSpec.upto tierLongSpec)) tierLongUptoCard
end Rows
end Go.Proofs.YtdlnbmadifgbkaaGreatDoor
