/- MachineApplies: the sanity check. Conditions: none. -/
import Derived.Test.YtpjfmjemmphheacDoorQ3
import Derived.Test.YtpjfmjemmphheacDoorE10
set_option linter.all false
set_option linter.unusedVariables false
set_option linter.unusedSimpArgs false
namespace Go.Proofs.MA
open Go Go.Hx Go.RowKit Go.Proofs
set_option maxRecDepth 100000
def tableL : List Int := [0,0,0,0, 1,0,0,2, 1,0,0,0, 1,1,0,0, 1,1,1,6, 1,1,0,3, 1,1,0,3, 1,0,0,4, 1,0,0,5, 1,0,0,5, 1,7,0,5, 0,0,0,8, 1,0,0,8, 0,10,11,9, 1,0,0,0, 1,0,0,0, 1,0,0,0, 0,0,0,12, 1,0,0,0, 1,0,0,0, 0,0,0,5, 0,0,0,13]
def tableV : List Value := tableL.map fun n => .int .i64 n
noncomputable def kSn0 : HCall := hcall Tryd.prog 300 noK noD 20
noncomputable def kSn : HCall := hcall Tryd.prog 300 noK (recDk Tryd.prog kSn0 20) 40
def isT : Option (Value × St) → Bool
  | some (.bool true, s) => s.pc.isEmpty
  | _ => false
theorem sane_run : isT (kSn 4 [] (globS tableV 3)) = true := by kernel_rfl
end Go.Proofs.MA
