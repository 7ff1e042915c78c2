/-
  acreage/acreagelaw22.drops: pieces of the run.
-/
import Derived.Test.YtmjfoggnkcjjjaaGreatDoorKdL
namespace Go.Proofs.YtmjfoggnkcjjjaaGreatDoor
set_option linter.all false
set_option maxRecDepth 1000000
namespace Kd
open Ex Go.RowKit
theorem p0 : seqsK (run Tryz.prog primsS 100000000) cx 4 c0 ⟨.nil, [], .nil, 1000⟩ (litB l0 cx.sz) = true := by kernel_rfl
end Kd
end Go.Proofs.YtmjfoggnkcjjjaaGreatDoor
