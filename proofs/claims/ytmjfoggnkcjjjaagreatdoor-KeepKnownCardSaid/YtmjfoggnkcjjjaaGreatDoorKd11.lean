/-
  acreage/acreagelaw22.drops: pieces of the run.
-/
import Derived.Test.YtmjfoggnkcjjjaaGreatDoorKdL
namespace Go.Proofs.YtmjfoggnkcjjjaaGreatDoor
set_option linter.all false
set_option maxRecDepth 1000000
namespace Kd
open Ex Go.RowKit
theorem p10 : roundsK (run Tryz.prog primsS 100000000) (inner c4) cx 4 l9.st (litB l10 cx.sz) = true := by kernel_rfl
end Kd
end Go.Proofs.YtmjfoggnkcjjjaaGreatDoor
