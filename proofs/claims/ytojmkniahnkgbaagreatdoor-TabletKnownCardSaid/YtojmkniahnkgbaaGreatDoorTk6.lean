/-
  acreage/acreagelaw18.TabletKnown: pieces of the run.
-/
import Derived.Test.YtojmkniahnkgbaaGreatDoorTkL3
namespace Go.Proofs.YtojmkniahnkgbaaGreatDoor
set_option linter.all false
set_option maxRecDepth 1000000
namespace Tk
open Ex Go.RowKit
theorem p40 : seqsK (run Tryz.prog prims13 100000000) cx16 1 c16_0 l16_0.st (litB l16_1 cx16.sz) = true := by kernel_rfl
theorem p41 : seqsK (run Tryz.prog prims13 100000000) cx17 7 c17_0 l17_0.st (litB l17_1 cx17.sz) = true := by kernel_rfl
theorem p42 : run Tryz.prog prims13 100000000 (.code c17_1) cx17 l17_1.st K17 = true := by kernel_rfl
theorem p43 : run Tryz.prog prims14 100000000 (.code c16_1) cx16 l16_1.st K16 = true := by kernel_rfl
theorem p44 : run Tryz.prog prims15 100000000 (.code c15_1) cx15 l15_1.st K15 = true := by kernel_rfl
theorem p45 : seqsK (run Tryz.prog prims16 100000000) cx12 1 c12_3 l12_3.st (litB l12_4 cx12.sz) = true := by kernel_rfl
theorem p46 : run Tryz.prog prims16 100000000 (.code c12_4) cx12 l12_4.st K12 = true := by kernel_rfl
theorem p47 : run Tryz.prog prims17 100000000 (.code c0_10) cx0 l0_9.st K0 = true := by kernel_rfl
end Tk
end Go.Proofs.YtojmkniahnkgbaaGreatDoor
