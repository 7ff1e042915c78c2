/-
  acreage/acreagelaw18.TabletKnown: pieces of the run.
-/
import Derived.Test.YtojmkniahnkgbaaGreatDoorTkL3
namespace Go.Proofs.YtojmkniahnkgbaaGreatDoor
set_option linter.all false
set_option maxRecDepth 1000000
namespace Tk
open Ex Go.RowKit
theorem p0 : seqsK (run Tryz.prog primsT 100000000) cx0 1 c0_0 ⟨.nil, [], hp0 GL, 1000⟩ (litB l0_0 cx0.sz) = true := by kernel_rfl
theorem p1 : seqsK (run Tryz.prog primsT 100000000) cx1 3 c1_0 l1_0.st (litB l1_1 cx1.sz) = true := by kernel_rfl
theorem p2 : seqsK (run Tryz.prog primsT 100000000) cx2 8 c2_0 l2_0.st (litB l2_1 cx2.sz) = true := by kernel_rfl
theorem p3 : run Tryz.prog primsT 100000000 (.code c2_1) cx2 l2_1.st K2 = true := by kernel_rfl
theorem p4 : run Tryz.prog prims1 100000000 (.code c1_1) cx1 l1_1.st K1 = true := by kernel_rfl
theorem p5 : seqsK (run Tryz.prog prims2 100000000) cx0 1 c0_1 l0_0.st (litB l0_1 cx0.sz) = true := by kernel_rfl
theorem p6 : seqsK (run Tryz.prog prims2 100000000) cx0 2 c0_2 l0_1.st (litB l0_2 cx0.sz) = true := by kernel_rfl
theorem p7 : seqsK (run Tryz.prog prims2 100000000) cx3 8 c3_0 l3_0.st (litB l3_1 cx3.sz) = true := by kernel_rfl
end Tk
end Go.Proofs.YtojmkniahnkgbaaGreatDoor
