/-
  acreage/acreagelaw22.KeepKnown: pieces of the run.
-/
import Derived.Test.YtmjfoggnkcjjjaaGreatDoorKkL
namespace Go.Proofs.YtmjfoggnkcjjjaaGreatDoor
set_option linter.all false
set_option maxRecDepth 1000000
namespace Kk
open Ex Go.RowKit
theorem p3 : seqsK (run Tryz.prog primsK 100000000) cx 2 c3 l2.st (litB l3 cx.sz) = true := by kernel_rfl
end Kk
end Go.Proofs.YtmjfoggnkcjjjaaGreatDoor
