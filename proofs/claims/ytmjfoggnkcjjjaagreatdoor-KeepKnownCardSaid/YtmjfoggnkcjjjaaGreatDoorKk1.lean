/-
  acreage/acreagelaw22.KeepKnown: pieces of the run.
-/
import Derived.Test.YtmjfoggnkcjjjaaGreatDoorKkL
namespace Go.Proofs.YtmjfoggnkcjjjaaGreatDoor
set_option linter.all false
set_option maxRecDepth 1000000
namespace Kk
open Ex Go.RowKit
theorem p0 : seqsK (run Tryz.prog primsK 100000000) cx 6 c0 ⟨.nil, [], .nil, 1000⟩ (litB l0 cx.sz) = true := by kernel_rfl
end Kk
end Go.Proofs.YtmjfoggnkcjjjaaGreatDoor
