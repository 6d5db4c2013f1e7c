/-
  DERIVED. GIVEN WITH THE SEED: THE CARDS: each row of YtpjfmjemmphheacDoorRows.lean that lists a variable, with what it lists TIED to the program's text (the seventh form; the later family's looks); each row that meets fmt, with fmt's text TOLD by the authors' own Lean function (tested against real Go, not proved from fmt's source: count such statements apart). THE CARD IS WHAT COUNTS. Prove the row's statement (the work); the ties are given (YtpjfmjemmphheacDoorTie.lean); close each card by the builder's one call (the guide's Derived/Test/ToyasCard.lean, 'card_holds'). Laid BY PROGRAM, IN A SANDBOX (cutbox-door.mjs). By AI agents, Wed Nov 11 2026. No macro, syntax, notation, axiom, sorry.
-/
import Derived.Test.YtpjfmjemmphheacDoorRows
import GoSem.ClaimSeven
namespace Go.Proofs.YtpjfmjemmphheacDoor
namespace Rows

/-- THE TIED CARD OF 'speculatelaw14.MachineApplies'. -/
def machineAppliesCard : Claim7 := { stood := { row := machineAppliesRow, standIns := [], harness := (true, "5edea5d64c845a42dc53c29eb4fec0e032fc446f20612b24d36a00e022d94674"), looks := true }, kinds := [], alts := [], laidByText := true, laidKinds := [.mapped, .data], laidTests := true, laidLooks := .later }
def MachineAppliesCardSaid : Prop := Claim7.holds Tryd.pinned (.plain (OpenSpec.ofChange machineAppliesSpec)) machineAppliesCard

/-- THE SECOND FORM's CARD OF 'speculatelaw14.MachineApplies'. -/
def machineAppliesUptoCard : Claim7 := { stood := { row := machineAppliesUptoRow, standIns := [], harness := (true, "5edea5d64c845a42dc53c29eb4fec0e032fc446f20612b24d36a00e022d94674"), looks := true }, kinds := [], alts := [], laidByText := true, laidKinds := [.mapped, .data], laidTests := true, laidLooks := .later }
def MachineAppliesUptoCardSaid : Prop := Claim7.holds Tryd.pinned (.plain (OpenSpec.upto machineAppliesSpec)) machineAppliesUptoCard
end Rows
end Go.Proofs.YtpjfmjemmphheacDoor
