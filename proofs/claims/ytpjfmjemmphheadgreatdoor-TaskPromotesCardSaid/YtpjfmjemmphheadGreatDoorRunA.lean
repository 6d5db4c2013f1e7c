/- The run of TaskPromotes over a task that is not known, where the sum is more than 100. -/
import Derived.Test.YtpjfmjemmphheadGreatDoorProg
import Derived.Test.YtpjfmjemmphheadGreatDoorHx24
import Derived.KernelRfl
namespace Go.Proofs.YtpjfmjemmphheadGreatDoor
open Go Go.Hx Go.RowKit
set_option maxRecDepth 100000
def tableL : List Int := [0,0,0,0, 1,0,0,2, 1,0,0,0, 1,1,0,0, 1,1,1,6, 1,1,0,3, 1,1,0,3, 1,0,0,4, 1,0,0,5, 1,0,0,5, 1,7,0,5, 0,0,0,8, 1,0,0,8, 0,10,11,9, 1,0,0,0, 1,0,0,0, 1,0,0,0, 0,0,0,12, 1,0,0,0, 1,0,0,0, 0,0,0,5, 0,0,0,13]
def tableV : List Value := tableL.map fun n => .int .i64 n
theorem runA : tpRun Tryz.prog tableV true = true := by kernel_rfl
end Go.Proofs.YtpjfmjemmphheadGreatDoor
