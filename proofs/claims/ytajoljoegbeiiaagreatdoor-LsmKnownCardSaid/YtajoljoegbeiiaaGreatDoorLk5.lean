/-
  acreage/acreagelaw14.LsmKnown: pieces of the run.
-/
import Derived.Test.YtajoljoegbeiiaaGreatDoorLkL2
namespace Go.Proofs.YtajoljoegbeiiaaGreatDoor
set_option linter.all false
set_option maxRecDepth 1000000
namespace Lk
open Ex Go.RowKit
theorem g47 : (roundsK (F0) (inner c1_21) cx1 2 l1_35.st (litB l1_36 cx1.sz) && (seqsK (F10) cx14 4 c14_1 l14_1.st (litB l14_2 cx14.sz) && (seqsK (F3) cx3 1 c3_1 l3_1.st (litB l3_2 cx3.sz) && F15 (.code c2_30) cx2 l2_16.st (cutK l2_17 cx2.sz)))) = true := by kernel_rfl
theorem q46 : roundsK (F0) (inner c1_21) cx1 2 l1_35.st (litB l1_36 cx1.sz) = true := andL g47
theorem q118 : seqsK (F10) cx14 4 c14_1 l14_1.st (litB l14_2 cx14.sz) = true := andL (andR g47)
theorem q78 : seqsK (F3) cx3 1 c3_1 l3_1.st (litB l3_2 cx3.sz) = true := andL (andR (andR g47))
theorem q142 : F15 (.code c2_30) cx2 l2_16.st (cutK l2_17 cx2.sz) = true := (andR (andR (andR g47)))
theorem g3 : (roundsK (F0) (inner c1_21) cx1 2 l1_32.st (litB l1_33 cx1.sz) && (seqsK (F25) cx27 1 c27_1 l27_1.st (litB l27_2 cx27.sz) && (F18 (.code c22_2) cx22 l22_2.st K22 && seqsK (F6) cx6 1 c6_1 l6_1.st (litB l6_2 cx6.sz)))) = true := by kernel_rfl
theorem q43 : roundsK (F0) (inner c1_21) cx1 2 l1_32.st (litB l1_33 cx1.sz) = true := andL g3
theorem q196 : seqsK (F25) cx27 1 c27_1 l27_1.st (litB l27_2 cx27.sz) = true := andL (andR g3)
theorem q165 : F18 (.code c22_2) cx22 l22_2.st K22 = true := andL (andR (andR g3))
theorem q93 : seqsK (F6) cx6 1 c6_1 l6_1.st (litB l6_2 cx6.sz) = true := (andR (andR (andR g3)))
theorem g11 : (roundsK (F0) (inner c1_11) cx1 2 l1_17.st (litB l1_18 cx1.sz) && (seqsK (F26) cx29 1 c29_1 l29_1.st (litB l29_2 cx29.sz) && (seqsK (F10) cx2 2 c2_29 l2_15.st (litB l2_16 cx2.sz) && (F0 (.code c1_22) cx1 l1_50.st (cutK l1_51 cx1.sz) && F29 (.code c2_62) cx2 l2_36.st K2)))) = true := by kernel_rfl
theorem q28 : roundsK (F0) (inner c1_11) cx1 2 l1_17.st (litB l1_18 cx1.sz) = true := andL g11
theorem q201 : seqsK (F26) cx29 1 c29_1 l29_1.st (litB l29_2 cx29.sz) = true := andL (andR g11)
theorem q114 : seqsK (F10) cx2 2 c2_29 l2_15.st (litB l2_16 cx2.sz) = true := andL (andR (andR g11))
theorem q61 : F0 (.code c1_22) cx1 l1_50.st (cutK l1_51 cx1.sz) = true := andL (andR (andR (andR g11)))
theorem q222 : F29 (.code c2_62) cx2 l2_36.st K2 = true := (andR (andR (andR (andR g11))))
theorem g29 : (roundsK (F0) (inner c1_11) cx1 2 l1_14.st (litB l1_15 cx1.sz) && (seqsK (F0) cx0 2 c0_5 l0_4.st (litB l0_5 cx0.sz) && (seqsK (F24) cx27 4 c27_0 l27_0.st (litB l27_1 cx27.sz) && (F19 (.code c21_3) cx21 l21_3.st K21 && seqsK (F23) cx23 1 c23_1 l23_1.st (litB l23_2 cx23.sz))))) = true := by kernel_rfl
theorem q25 : roundsK (F0) (inner c1_11) cx1 2 l1_14.st (litB l1_15 cx1.sz) = true := andL g29
theorem q5 : seqsK (F0) cx0 2 c0_5 l0_4.st (litB l0_5 cx0.sz) = true := andL (andR g29)
theorem q192 : seqsK (F24) cx27 4 c27_0 l27_0.st (litB l27_1 cx27.sz) = true := andL (andR (andR g29))
theorem q168 : F19 (.code c21_3) cx21 l21_3.st K21 = true := andL (andR (andR (andR g29)))
theorem q184 : seqsK (F23) cx23 1 c23_1 l23_1.st (litB l23_2 cx23.sz) = true := (andR (andR (andR (andR g29))))
end Lk
end Go.Proofs.YtajoljoegbeiiaaGreatDoor
