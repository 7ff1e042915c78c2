/-
  acreage/acreagelaw22.KeepKnown: pieces of the run.
-/
import Derived.Test.YtmjfoggnkcjjjaaGreatDoorKkL
namespace Go.Proofs.YtmjfoggnkcjjjaaGreatDoor
set_option linter.all false
set_option maxRecDepth 1000000
namespace Kk
open Ex Go.RowKit
theorem p2 : seqsK (run Tryz.prog primsK 100000000) cx 4 c2 l1.st (litB l2 cx.sz) = true := by kernel_rfl
end Kk
end Go.Proofs.YtmjfoggnkcjjjaaGreatDoor
