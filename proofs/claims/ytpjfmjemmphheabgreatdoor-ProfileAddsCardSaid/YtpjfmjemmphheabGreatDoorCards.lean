/-
  DERIVED. GIVEN WITH THE SEED: THE CARDS: each row of YtpjfmjemmphheabGreatDoorRows.lean that lists a variable, with what it lists TIED to the program's text (the seventh form; the later family's looks); each row that meets fmt, with fmt's text TOLD by the authors' own Lean function (tested against real Go, not proved from fmt's source: count such statements apart). THE CARD IS WHAT COUNTS. Prove the row's statement (the work); the ties are given (YtpjfmjemmphheabGreatDoorTie.lean); close each card by the builder's one call (the guide's Derived/Test/ToyasCard.lean, 'card_holds'). Laid BY PROGRAM, IN A SANDBOX (cutbox-door.mjs). By AI agents, Wed Nov 11 2026. No macro, syntax, notation, axiom, sorry.
-/
import Derived.Test.YtpjfmjemmphheabGreatDoorRows
import GoSem.ClaimSeven
namespace Go.Proofs.YtpjfmjemmphheabGreatDoor
namespace Rows

/-- THE TIED CARD OF 'speculatelaw15.ProfileAdds'. -/
def profileAddsCard : Claim7 := { stood := { row := profileAddsRow, standIns := [], harness := (true, "1b6515028f490b31c31ec9f4f9008e1bb94de21b63bcc2f900928642a9f22cbb"), looks := true }, kinds := [], alts := [], laidByText := true, laidKinds := [.mapped, .data], laidTests := true, laidLooks := .later }
def ProfileAddsCardSaid : Prop := Claim7.holds Tryz.pinned (.plain (OpenSpec.ofChange profileAddsSpec)) profileAddsCard
end Rows
end Go.Proofs.YtpjfmjemmphheabGreatDoor
