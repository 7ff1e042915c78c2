/-
  acreage/acreagelaw18.TabletKnown: pieces of the run.
-/
import Derived.Test.YtojmkniahnkgbaaGreatDoorTkL3
namespace Go.Proofs.YtojmkniahnkgbaaGreatDoor
set_option linter.all false
set_option maxRecDepth 1000000
namespace Tk
open Ex Go.RowKit
theorem p24 : seqsK (run Tryz.prog prims8 100000000) cx9 8 c9_0 l9_0.st (litB l9_1 cx9.sz) = true := by kernel_rfl
theorem p25 : seqsK (run Tryz.prog prims8 100000000) cx10 1 c10_0 l10_0.st (litB l10_1 cx10.sz) = true := by kernel_rfl
theorem p26 : seqsK (run Tryz.prog prims8 100000000) cx11 7 c11_0 l11_0.st (litB l11_1 cx11.sz) = true := by kernel_rfl
theorem p27 : run Tryz.prog prims8 100000000 (.code c11_1) cx11 l11_1.st K11 = true := by kernel_rfl
theorem p28 : run Tryz.prog prims9 100000000 (.code c10_1) cx10 l10_1.st K10 = true := by kernel_rfl
theorem p29 : run Tryz.prog prims10 100000000 (.code c9_1) cx9 l9_1.st K9 = true := by kernel_rfl
theorem p30 : seqsK (run Tryz.prog prims11 100000000) cx0 1 c0_8 l0_7.st (litB l0_8 cx0.sz) = true := by kernel_rfl
theorem p31 : seqsK (run Tryz.prog prims11 100000000) cx0 14 c0_9 l0_8.st (litB l0_9 cx0.sz) = true := by kernel_rfl
end Tk
end Go.Proofs.YtojmkniahnkgbaaGreatDoor
