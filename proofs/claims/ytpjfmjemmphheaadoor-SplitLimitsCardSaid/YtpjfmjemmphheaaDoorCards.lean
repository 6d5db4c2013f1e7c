/-
  DERIVED. GIVEN WITH THE SEED: THE CARDS: each row of YtpjfmjemmphheaaDoorRows.lean that lists a variable, with what it lists TIED to the program's text (the seventh form; the later family's looks); each row that meets fmt, with fmt's text TOLD by the authors' own Lean function (tested against real Go, not proved from fmt's source: count such statements apart). THE CARD IS WHAT COUNTS. Prove the row's statement (the work); the ties are given (YtpjfmjemmphheaaDoorTie.lean); close each card by the builder's one call (the guide's Derived/Test/ToyasCard.lean, 'card_holds'). Laid BY PROGRAM, IN A SANDBOX (cutbox-door.mjs). By AI agents, Wed Nov 11 2026. No macro, syntax, notation, axiom, sorry.
-/
import Derived.Test.YtpjfmjemmphheaaDoorRows
import GoSem.ClaimSeven
namespace Go.Proofs.YtpjfmjemmphheaaDoor
namespace Rows

/-- THE TIED CARD OF 'speculatelaw16.SplitLimits'. -/
def splitLimitsCard : Claim7 := { stood := { row := splitLimitsRow, standIns := [], harness := (true, "c11304decf34192220e2122384f7d79c354a96df1be39f82862b6fd0b1d0610f"), looks := false }, kinds := [], alts := [], laidByText := true, laidKinds := [.mapped, .data], laidTests := true, laidLooks := .later }
def SplitLimitsCardSaid : Prop := Claim7.holds Tryd.pinned (.plain (OpenSpec.ofChange splitLimitsSpec)) splitLimitsCard

/-- THE SECOND FORM's CARD OF 'speculatelaw16.SplitLimits'. -/
def splitLimitsUptoCard : Claim7 := { stood := { row := splitLimitsUptoRow, standIns := [], harness := (true, "c11304decf34192220e2122384f7d79c354a96df1be39f82862b6fd0b1d0610f"), looks := false }, kinds := [], alts := [], laidByText := true, laidKinds := [.mapped, .data], laidTests := true, laidLooks := .later }
def SplitLimitsUptoCardSaid : Prop := Claim7.holds Tryd.pinned (.plain (OpenSpec.upto splitLimitsSpec)) splitLimitsUptoCard
end Rows
end Go.Proofs.YtpjfmjemmphheaaDoor
