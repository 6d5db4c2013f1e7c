/-
  NARROWER THAN 'FOR EVERY INPUT', by the rows' own cells (each row's printed sentence says how): ProfileAdds: calm, laid.
  DERIVED. THE GIVEN ROWS OF THIS SEAT. 1 by the template 'for every input the law returns true; each argument reads behind the call as it read before'; 0 by the template 'total and deterministic' (their statements: YtpjfmjemmphheabGreatDoorTotals.lean).
  GIVEN WITH THE SEED: the statements are not yours to turn. If you find one false, say at which input.
  Laid BY PROGRAM, IN A SANDBOX (cutbox-rows.mjs): the forced cells as the released guide's own fill.sh prints them over the translation 14b230067a043fda… (all of the seat's roots in one cut). By AI agents, Wed Nov 11 2026. No macro, syntax, notation, axiom, sorry.
-/
import Derived.Test.YtpjfmjemmphheabGreatDoorChecked
import GoSem.Claim
import GoSem.ClaimJoined
import GoSem.ClaimMapViews
import Derived.JoinedTies
import Derived.KernelRfl
namespace Go.Proofs.YtpjfmjemmphheabGreatDoor
/- THE CELL 'sum', in the pinned program and in every row, IS THE sha256 OF THE DUMP (.gsa) THAT YtpjfmjemmphheabGreatDoorProg.lean LOADS. Nothing in Lean hashes anything: it is a label: what it is worth is what the hold of that sum in a sandbox is worth. -/
noncomputable def Tryz.pinned : Pinned := { name := "ytpjfmjemmphheabgreatdoor", sum := "14b230067a043fda5fde7c5b17c76aa9a9947802cb132c00226ddbc9ee9cd68f", checked := Tryz.checked }
namespace Rows
def none {H : Type} : Left H := { results := [], args := [] }

/- WHAT THE LISTED PACKAGE-LEVEL VARIABLES READ AS WHEN THE CALL BEGINS. Each datum BY PROGRAM (the guide's laid-datum.mjs) off the statement by which the dump's own 'gosem.cut.vars' lays the variable. In a bare row this is a premise. The card (YtpjfmjemmphheabGreatDoorCards.lean) ties it to the program's text. -/
def laid_speculate_value_units {H : Type} : DataW H := .map [(.int .i64 1, .lit (.int .i64 0)), (.int .i64 3, .lit (.int .i64 1)), (.int .i64 5, .lit (.int .i64 9223372036854775807)), (.int .i64 6, .lit (.int .i64 (-9223372036854775808))), (.int .i64 7, .lit (.int .i64 (-1))), (.int .i64 8, .lit (.int .i64 0)), (.int .i64 9, .lit (.int .i64 0))]
def laid_speculate_code_table {H : Type} : DataW H := .agg [.agg [.lit (.int .i64 0), .lit (.int .i64 0), .lit (.int .i64 0), .lit (.int .i64 0)], .agg [.lit (.int .i64 1), .lit (.int .i64 0), .lit (.int .i64 0), .lit (.int .i64 2)], .agg [.lit (.int .i64 1), .lit (.int .i64 0), .lit (.int .i64 0), .lit (.int .i64 0)], .agg [.lit (.int .i64 1), .lit (.int .i64 1), .lit (.int .i64 0), .lit (.int .i64 0)], .agg [.lit (.int .i64 1), .lit (.int .i64 1), .lit (.int .i64 1), .lit (.int .i64 6)], .agg [.lit (.int .i64 1), .lit (.int .i64 1), .lit (.int .i64 0), .lit (.int .i64 3)], .agg [.lit (.int .i64 1), .lit (.int .i64 1), .lit (.int .i64 0), .lit (.int .i64 3)], .agg [.lit (.int .i64 1), .lit (.int .i64 0), .lit (.int .i64 0), .lit (.int .i64 4)], .agg [.lit (.int .i64 1), .lit (.int .i64 0), .lit (.int .i64 0), .lit (.int .i64 5)], .agg [.lit (.int .i64 1), .lit (.int .i64 0), .lit (.int .i64 0), .lit (.int .i64 5)], .agg [.lit (.int .i64 1), .lit (.int .i64 7), .lit (.int .i64 0), .lit (.int .i64 5)], .agg [.lit (.int .i64 0), .lit (.int .i64 0), .lit (.int .i64 0), .lit (.int .i64 8)], .agg [.lit (.int .i64 1), .lit (.int .i64 0), .lit (.int .i64 0), .lit (.int .i64 8)], .agg [.lit (.int .i64 0), .lit (.int .i64 10), .lit (.int .i64 11), .lit (.int .i64 9)], .agg [.lit (.int .i64 1), .lit (.int .i64 0), .lit (.int .i64 0), .lit (.int .i64 0)], .agg [.lit (.int .i64 1), .lit (.int .i64 0), .lit (.int .i64 0), .lit (.int .i64 0)], .agg [.lit (.int .i64 1), .lit (.int .i64 0), .lit (.int .i64 0), .lit (.int .i64 0)], .agg [.lit (.int .i64 0), .lit (.int .i64 0), .lit (.int .i64 0), .lit (.int .i64 12)], .agg [.lit (.int .i64 1), .lit (.int .i64 0), .lit (.int .i64 0), .lit (.int .i64 0)], .agg [.lit (.int .i64 1), .lit (.int .i64 0), .lit (.int .i64 0), .lit (.int .i64 0)], .agg [.lit (.int .i64 0), .lit (.int .i64 0), .lit (.int .i64 0), .lit (.int .i64 5)], .agg [.lit (.int .i64 0), .lit (.int .i64 0), .lit (.int .i64 0), .lit (.int .i64 13)]]

/-- 'speculatelaw15.ProfileAdds': WHATEVER THE INPUT: true; the input reads as it did. -/
def profileAddsSpec : ChangeSpec := { name := "profileAdds", fn := fun _ => fun
  | [d1, d2, d3, d4, d5] => { results := [.lit (.bool true)], args := [d1, d2, d3, d4, d5] }
  | _ => none }
def profileAddsRow : OpenClaim := { program := "ytpjfmjemmphheabgreatdoor", sum := "14b230067a043fda5fde7c5b17c76aa9a9947802cb132c00226ddbc9ee9cd68f", func := "speculate/speculatelaw15.ProfileAdds", spec := "profileAdds", inPlace := ["slices.overlaps[int64]"], unfollowed := true, recurses := true, named := ["speculate/code.table", "speculate/value.operators", "speculate/value.units"], plainKeys := false, apart := false, calm := true, outside := [.timePasses], laid := [("speculate/value.units", laid_speculate_value_units), ("speculate/code.table", laid_speculate_code_table)] }
def ProfileAddsSaid : Prop := profileAddsRow.holds Tryz.pinned (OpenSpec.ofChange profileAddsSpec)

/-- ITS FALSE NEIGHBOUR: 'it returns false'. Refute it at one input. -/
def profileAddsWrong : ChangeSpec := { name := "profileAdds", fn := fun _ => fun
  | [d1, d2, d3, d4, d5] => { results := [.lit (.bool false)], args := [d1, d2, d3, d4, d5] }
  | _ => none }
def ProfileAddsWrongFalsely : Prop := profileAddsRow.holds Tryz.pinned (OpenSpec.ofChange profileAddsWrong)

end Rows
end Go.Proofs.YtpjfmjemmphheabGreatDoor
