/-
  NARROWER THAN 'FOR EVERY INPUT', by the rows' own cells (each row's printed sentence says how): TaskPromotes: calm, laid.
  DERIVED. THE GIVEN ROWS OF THIS SEAT. 1 by the template 'for every input the law returns true; each argument reads behind the call as it read before'; 0 by the template 'total and deterministic' (their statements: YtpjfmjemmphheadGreatDoorTotals.lean).
  GIVEN WITH THE SEED: the statements are not yours to turn. If you find one false, say at which input.
  Laid BY PROGRAM, IN A SANDBOX (cutbox-rows.mjs): the forced cells as the released guide's own fill.sh prints them over the translation d4b44c3ab48ae4b6… (all of the seat's roots in one cut). By AI agents, Wed Nov 11 2026. No macro, syntax, notation, axiom, sorry.
-/
import Derived.Test.YtpjfmjemmphheadGreatDoorChecked
import GoSem.Claim
import GoSem.ClaimJoined
import GoSem.ClaimMapViews
import Derived.JoinedTies
import Derived.KernelRfl
namespace Go.Proofs.YtpjfmjemmphheadGreatDoor
/- THE CELL 'sum', in the pinned program and in every row, IS THE sha256 OF THE DUMP (.gsa) THAT YtpjfmjemmphheadGreatDoorProg.lean LOADS. Nothing in Lean hashes anything: it is a label: what it is worth is what the hold of that sum in a sandbox is worth. -/
noncomputable def Tryz.pinned : Pinned := { name := "ytpjfmjemmphheadgreatdoor", sum := "d4b44c3ab48ae4b61a729eff1fa79c5fcf549d070cb556ae72f7b2c9ec5df71a", checked := Tryz.checked }
namespace Rows
def none {H : Type} : Left H := { results := [], args := [] }

/- WHAT THE LISTED PACKAGE-LEVEL VARIABLES READ AS WHEN THE CALL BEGINS. Each datum BY PROGRAM (the guide's laid-datum.mjs) off the statement by which the dump's own 'gosem.cut.vars' lays the variable. In a bare row this is a premise. The card (YtpjfmjemmphheadGreatDoorCards.lean) ties it to the program's text. -/
def laid_speculate_value_units {H : Type} : DataW H := .map [(.int .i64 1, .lit (.int .i64 0)), (.int .i64 3, .lit (.int .i64 1)), (.int .i64 5, .lit (.int .i64 9223372036854775807)), (.int .i64 6, .lit (.int .i64 (-9223372036854775808))), (.int .i64 7, .lit (.int .i64 (-1))), (.int .i64 8, .lit (.int .i64 0)), (.int .i64 9, .lit (.int .i64 0))]
def laid_speculate_code_table {H : Type} : DataW H := .agg [.agg [.lit (.int .i64 0), .lit (.int .i64 0), .lit (.int .i64 0), .lit (.int .i64 0)], .agg [.lit (.int .i64 1), .lit (.int .i64 0), .lit (.int .i64 0), .lit (.int .i64 2)], .agg [.lit (.int .i64 1), .lit (.int .i64 0), .lit (.int .i64 0), .lit (.int .i64 0)], .agg [.lit (.int .i64 1), .lit (.int .i64 1), .lit (.int .i64 0), .lit (.int .i64 0)], .agg [.lit (.int .i64 1), .lit (.int .i64 1), .lit (.int .i64 1), .lit (.int .i64 6)], .agg [.lit (.int .i64 1), .lit (.int .i64 1), .lit (.int .i64 0), .lit (.int .i64 3)], .agg [.lit (.int .i64 1), .lit (.int .i64 1), .lit (.int .i64 0), .lit (.int .i64 3)], .agg [.lit (.int .i64 1), .lit (.int .i64 0), .lit (.int .i64 0), .lit (.int .i64 4)], .agg [.lit (.int .i64 1), .lit (.int .i64 0), .lit (.int .i64 0), .lit (.int .i64 5)], .agg [.lit (.int .i64 1), .lit (.int .i64 0), .lit (.int .i64 0), .lit (.int .i64 5)], .agg [.lit (.int .i64 1), .lit (.int .i64 7), .lit (.int .i64 0), .lit (.int .i64 5)], .agg [.lit (.int .i64 0), .lit (.int .i64 0), .lit (.int .i64 0), .lit (.int .i64 8)], .agg [.lit (.int .i64 1), .lit (.int .i64 0), .lit (.int .i64 0), .lit (.int .i64 8)], .agg [.lit (.int .i64 0), .lit (.int .i64 10), .lit (.int .i64 11), .lit (.int .i64 9)], .agg [.lit (.int .i64 1), .lit (.int .i64 0), .lit (.int .i64 0), .lit (.int .i64 0)], .agg [.lit (.int .i64 1), .lit (.int .i64 0), .lit (.int .i64 0), .lit (.int .i64 0)], .agg [.lit (.int .i64 1), .lit (.int .i64 0), .lit (.int .i64 0), .lit (.int .i64 0)], .agg [.lit (.int .i64 0), .lit (.int .i64 0), .lit (.int .i64 0), .lit (.int .i64 12)], .agg [.lit (.int .i64 1), .lit (.int .i64 0), .lit (.int .i64 0), .lit (.int .i64 0)], .agg [.lit (.int .i64 1), .lit (.int .i64 0), .lit (.int .i64 0), .lit (.int .i64 0)], .agg [.lit (.int .i64 0), .lit (.int .i64 0), .lit (.int .i64 0), .lit (.int .i64 5)], .agg [.lit (.int .i64 0), .lit (.int .i64 0), .lit (.int .i64 0), .lit (.int .i64 13)]]

/-- 'speculatelaw17.TaskPromotes': WHATEVER THE INPUT: true; the input reads as it did. -/
def taskPromotesSpec : ChangeSpec := { name := "taskPromotes", fn := fun _ => fun
  | [d] => { results := [.lit (.bool true)], args := [d] }
  | _ => none }
def taskPromotesRow : OpenClaim := { program := "ytpjfmjemmphheadgreatdoor", sum := "d4b44c3ab48ae4b61a729eff1fa79c5fcf549d070cb556ae72f7b2c9ec5df71a", func := "speculate/speculatelaw17.TaskPromotes", spec := "taskPromotes", inPlace := ["slices.overlaps[speculate/api.Cell]", "slices.overlaps[speculate/api.Delta]"], unfollowed := true, recurses := true, named := ["speculate/code.table", "speculate/value.operators", "speculate/value.units"], apart := false, calm := true, outside := [.timePasses], laid := [("speculate/value.units", laid_speculate_value_units), ("speculate/code.table", laid_speculate_code_table)] }
def TaskPromotesSaid : Prop := taskPromotesRow.holds Tryz.pinned (OpenSpec.ofChange taskPromotesSpec)

/-- ITS FALSE NEIGHBOUR: 'it returns false'. Refute it at one input. -/
def taskPromotesWrong : ChangeSpec := { name := "taskPromotes", fn := fun _ => fun
  | [d] => { results := [.lit (.bool false)], args := [d] }
  | _ => none }
def TaskPromotesWrongFalsely : Prop := taskPromotesRow.holds Tryz.pinned (OpenSpec.ofChange taskPromotesWrong)

end Rows
end Go.Proofs.YtpjfmjemmphheadGreatDoor
