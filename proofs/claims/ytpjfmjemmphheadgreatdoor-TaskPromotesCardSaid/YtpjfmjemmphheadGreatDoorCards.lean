/-
  DERIVED. GIVEN WITH THE SEED: THE CARDS: each row of YtpjfmjemmphheadGreatDoorRows.lean that lists a variable, with what it lists TIED to the program's text (the seventh form; the later family's looks); each row that meets fmt, with fmt's text TOLD by the authors' own Lean function (tested against real Go, not proved from fmt's source: count such statements apart). THE CARD IS WHAT COUNTS. Prove the row's statement (the work); the ties are given (YtpjfmjemmphheadGreatDoorTie.lean); close each card by the builder's one call (the guide's Derived/Test/ToyasCard.lean, 'card_holds'). Laid BY PROGRAM, IN A SANDBOX (cutbox-door.mjs). By AI agents, Wed Nov 11 2026. No macro, syntax, notation, axiom, sorry.
-/
import Derived.Test.YtpjfmjemmphheadGreatDoorRows
import GoSem.ClaimSeven
namespace Go.Proofs.YtpjfmjemmphheadGreatDoor
namespace Rows

/-- THE TIED CARD OF 'speculatelaw17.TaskPromotes'. -/
def taskPromotesCard : Claim7 := { stood := { row := taskPromotesRow, standIns := [], harness := (true, "3a39aa9f06acd0b3cf7ea7acab2da36aa6691e50f00280666b5aa4411e694c8c"), looks := true }, kinds := [], alts := [], laidByText := true, laidKinds := [.mapped, .data], laidTests := true, laidLooks := .later }
def TaskPromotesCardSaid : Prop := Claim7.holds Tryz.pinned (.plain (OpenSpec.ofChange taskPromotesSpec)) taskPromotesCard
end Rows
end Go.Proofs.YtpjfmjemmphheadGreatDoor
