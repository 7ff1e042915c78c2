/-
  acreage/acreagelaw18.TabletKnown: pieces of the run.
-/
import Derived.Test.YtojmkniahnkgbaaGreatDoorTkL3
namespace Go.Proofs.YtojmkniahnkgbaaGreatDoor
set_option linter.all false
set_option maxRecDepth 1000000
namespace Tk
open Ex Go.RowKit
theorem p16 : seqsK (run Tryz.prog prims5 100000000) cx6 8 c6_0 l6_0.st (litB l6_1 cx6.sz) = true := by kernel_rfl
theorem p17 : seqsK (run Tryz.prog prims5 100000000) cx7 5 c7_0 l7_0.st (litB l7_1 cx7.sz) = true := by kernel_rfl
theorem p18 : seqsK (run Tryz.prog prims5 100000000) cx8 8 c8_0 l8_0.st (litB l8_1 cx8.sz) = true := by kernel_rfl
theorem p19 : run Tryz.prog prims5 100000000 (.code c8_1) cx8 l8_1.st K8 = true := by kernel_rfl
theorem p20 : run Tryz.prog prims6 100000000 (.code c7_1) cx7 l7_1.st K7 = true := by kernel_rfl
theorem p21 : run Tryz.prog prims7 100000000 (.code c6_1) cx6 l6_1.st K6 = true := by kernel_rfl
theorem p22 : seqsK (run Tryz.prog prims8 100000000) cx0 1 c0_6 l0_5.st (litB l0_6 cx0.sz) = true := by kernel_rfl
theorem p23 : seqsK (run Tryz.prog prims8 100000000) cx0 6 c0_7 l0_6.st (litB l0_7 cx0.sz) = true := by kernel_rfl
end Tk
end Go.Proofs.YtojmkniahnkgbaaGreatDoor
