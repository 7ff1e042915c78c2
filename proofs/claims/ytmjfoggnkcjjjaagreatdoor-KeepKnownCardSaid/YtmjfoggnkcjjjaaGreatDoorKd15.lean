/-
  acreage/acreagelaw22.drops: pieces of the run.
-/
import Derived.Test.YtmjfoggnkcjjjaaGreatDoorKdL
namespace Go.Proofs.YtmjfoggnkcjjjaaGreatDoor
set_option linter.all false
set_option maxRecDepth 1000000
namespace Kd
open Ex Go.RowKit
theorem p14 : run Tryz.prog primsS 100000000 (.code c5) cx l13.st K0 = true := by kernel_rfl
end Kd
end Go.Proofs.YtmjfoggnkcjjjaaGreatDoor
