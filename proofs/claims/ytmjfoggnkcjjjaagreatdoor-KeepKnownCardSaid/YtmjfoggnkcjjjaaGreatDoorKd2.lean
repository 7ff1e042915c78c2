/-
  acreage/acreagelaw22.drops: pieces of the run.
-/
import Derived.Test.YtmjfoggnkcjjjaaGreatDoorKdL
namespace Go.Proofs.YtmjfoggnkcjjjaaGreatDoor
set_option linter.all false
set_option maxRecDepth 1000000
namespace Kd
open Ex Go.RowKit
theorem p1 : seqsK (run Tryz.prog primsS 100000000) cx 1 c2 l0.st (litB l1 cx.sz) = true := by kernel_rfl
end Kd
end Go.Proofs.YtmjfoggnkcjjjaaGreatDoor
