/-
  acreage/acreagelaw18.TabletKnown: pieces of the run.
-/
import Derived.Test.YtojmkniahnkgbaaGreatDoorTkL3
namespace Go.Proofs.YtojmkniahnkgbaaGreatDoor
set_option linter.all false
set_option maxRecDepth 1000000
namespace Tk
open Ex Go.RowKit
theorem p32 : seqsK (run Tryz.prog prims11 100000000) cx12 1 c12_0 l12_0.st (litB l12_1 cx12.sz) = true := by kernel_rfl
theorem p33 : seqsK (run Tryz.prog prims11 100000000) cx13 3 c13_0 l13_0.st (litB l13_1 cx13.sz) = true := by kernel_rfl
theorem p34 : seqsK (run Tryz.prog prims11 100000000) cx14 8 c14_0 l14_0.st (litB l14_1 cx14.sz) = true := by kernel_rfl
theorem p35 : run Tryz.prog prims11 100000000 (.code c14_1) cx14 l14_1.st K14 = true := by kernel_rfl
theorem p36 : run Tryz.prog prims12 100000000 (.code c13_1) cx13 l13_1.st K13 = true := by kernel_rfl
theorem p37 : seqsK (run Tryz.prog prims13 100000000) cx12 1 c12_1 l12_1.st (litB l12_2 cx12.sz) = true := by kernel_rfl
theorem p38 : seqsK (run Tryz.prog prims13 100000000) cx12 3 c12_2 l12_2.st (litB l12_3 cx12.sz) = true := by kernel_rfl
theorem p39 : seqsK (run Tryz.prog prims13 100000000) cx15 8 c15_0 l15_0.st (litB l15_1 cx15.sz) = true := by kernel_rfl
end Tk
end Go.Proofs.YtojmkniahnkgbaaGreatDoor
