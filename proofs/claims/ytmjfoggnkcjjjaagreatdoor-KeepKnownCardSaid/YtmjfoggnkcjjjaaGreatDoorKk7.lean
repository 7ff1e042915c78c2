/-
  acreage/acreagelaw22.KeepKnown: pieces of the run.
-/
import Derived.Test.YtmjfoggnkcjjjaaGreatDoorKkL
namespace Go.Proofs.YtmjfoggnkcjjjaaGreatDoor
set_option linter.all false
set_option maxRecDepth 1000000
namespace Kk
open Ex Go.RowKit
theorem p6 : run Tryz.prog primsK 100000000 (.code c6) cx l5.st K0 = true := by kernel_rfl
end Kk
end Go.Proofs.YtmjfoggnkcjjjaaGreatDoor
