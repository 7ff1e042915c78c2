/-
  acreage/acreagelaw22.drops: pieces of the run.
-/
import Derived.Test.YtmjfoggnkcjjjaaGreatDoorKdL
namespace Go.Proofs.YtmjfoggnkcjjjaaGreatDoor
set_option linter.all false
set_option maxRecDepth 1000000
namespace Kd
open Ex Go.RowKit
theorem p2 : roundsK (run Tryz.prog primsS 100000000) (inner c4) cx 8 l1.st (litB l2 cx.sz) = true := by kernel_rfl
end Kd
end Go.Proofs.YtmjfoggnkcjjjaaGreatDoor
