/- The run of TaskPromotes over a task that is not known, where the sum is at most 100. -/
import Derived.Test.YtpjfmjemmphheadGreatDoorRunA
namespace Go.Proofs.YtpjfmjemmphheadGreatDoor
open Go Go.Hx Go.RowKit
set_option maxRecDepth 100000
theorem runB : tpRun Tryz.prog tableV false = true := by kernel_rfl
end Go.Proofs.YtpjfmjemmphheadGreatDoor
