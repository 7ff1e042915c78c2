/-
  acreage/acreagelaw18.TabletKnown: pieces of the run.
-/
import Derived.Test.YtojmkniahnkgbaaGreatDoorTkL3
namespace Go.Proofs.YtojmkniahnkgbaaGreatDoor
set_option linter.all false
set_option maxRecDepth 1000000
namespace Tk
open Ex Go.RowKit
theorem p8 : seqsK (run Tryz.prog prims2 100000000) cx4 1 c4_0 l4_0.st (litB l4_1 cx4.sz) = true := by kernel_rfl
theorem p9 : seqsK (run Tryz.prog prims2 100000000) cx5 7 c5_0 l5_0.st (litB l5_1 cx5.sz) = true := by kernel_rfl
theorem p10 : run Tryz.prog prims2 100000000 (.code c5_1) cx5 l5_1.st K5 = true := by kernel_rfl
theorem p11 : run Tryz.prog prims3 100000000 (.code c4_1) cx4 l4_1.st K4 = true := by kernel_rfl
theorem p12 : run Tryz.prog prims4 100000000 (.code c3_1) cx3 l3_1.st K3 = true := by kernel_rfl
theorem p13 : seqsK (run Tryz.prog prims5 100000000) cx0 1 c0_3 l0_2.st (litB l0_3 cx0.sz) = true := by kernel_rfl
theorem p14 : seqsK (run Tryz.prog prims5 100000000) cx0 4 c0_4 l0_3.st (litB l0_4 cx0.sz) = true := by kernel_rfl
theorem p15 : seqsK (run Tryz.prog prims5 100000000) cx0 2 c0_5 l0_4.st (litB l0_5 cx0.sz) = true := by kernel_rfl
end Tk
end Go.Proofs.YtojmkniahnkgbaaGreatDoor
