/-
  acreage/acreagelaw14.LsmKnown: pieces of the run.
-/
import Derived.Test.YtajoljoegbeiiaaGreatDoorLkL2
namespace Go.Proofs.YtajoljoegbeiiaaGreatDoor
set_option linter.all false
set_option maxRecDepth 1000000
namespace Lk
open Ex Go.RowKit
theorem g7 : (roundsK (F0) (inner c1_21) cx1 2 l1_40.st (litB l1_41 cx1.sz) && (seqsK (F2) cx4 1 c4_1 l4_1.st (litB l4_2 cx4.sz) && (seqsK (F12) cx15 1 c15_1 l15_1.st (litB l15_2 cx15.sz) && F13 (.code c15_7) cx15 l15_7.st (exK 8 l15_8 cx15.sz)))) = true := by kernel_rfl
theorem q51 : roundsK (F0) (inner c1_21) cx1 2 l1_40.st (litB l1_41 cx1.sz) = true := andL g7
theorem q75 : seqsK (F2) cx4 1 c4_1 l4_1.st (litB l4_2 cx4.sz) = true := andL (andR g7)
theorem q125 : seqsK (F12) cx15 1 c15_1 l15_1.st (litB l15_2 cx15.sz) = true := andL (andR (andR g7))
theorem q137 : F13 (.code c15_7) cx15 l15_7.st (exK 8 l15_8 cx15.sz) = true := (andR (andR (andR g7)))
theorem g33 : (roundsK (F0) (inner c0_4) cx0 2 l0_1.st (litB l0_2 cx0.sz) && (roundsK (F12) (inner c16_3) cx16 6 l16_1.st (litB l16_2 cx16.sz) && (F0 (.code c1_12) cx1 l1_25.st (cutK l1_26 cx1.sz) && F7 (.code c2_17) cx2 l2_9.st (cutK l2_10 cx2.sz)))) = true := by kernel_rfl
theorem q2 : roundsK (F0) (inner c0_4) cx0 2 l0_1.st (litB l0_2 cx0.sz) = true := andL g33
theorem q127 : roundsK (F12) (inner c16_3) cx16 6 l16_1.st (litB l16_2 cx16.sz) = true := andL (andR g33)
theorem q36 : F0 (.code c1_12) cx1 l1_25.st (cutK l1_26 cx1.sz) = true := andL (andR (andR g33))
theorem q97 : F7 (.code c2_17) cx2 l2_9.st (cutK l2_10 cx2.sz) = true := (andR (andR (andR g33)))
theorem g37 : (roundsK (F0) (inner c1_21) cx1 2 l1_46.st (litB l1_47 cx1.sz) && (roundsK (F0) (inner c1_21) cx1 2 l1_43.st (litB l1_44 cx1.sz) && (seqsK (F4) cx2 2 c2_15 l2_7.st (litB l2_8 cx2.sz) && (seqsK (F0) cx1 1 c1_15 l1_27.st (litB l1_28 cx1.sz) && F29 (.code c2_58) cx2 l2_32.st (cutK l2_33 cx2.sz))))) = true := by kernel_rfl
theorem q57 : roundsK (F0) (inner c1_21) cx1 2 l1_46.st (litB l1_47 cx1.sz) = true := andL g37
theorem q54 : roundsK (F0) (inner c1_21) cx1 2 l1_43.st (litB l1_44 cx1.sz) = true := andL (andR g37)
theorem q84 : seqsK (F4) cx2 2 c2_15 l2_7.st (litB l2_8 cx2.sz) = true := andL (andR (andR g37))
theorem q38 : seqsK (F0) cx1 1 c1_15 l1_27.st (litB l1_28 cx1.sz) = true := andL (andR (andR (andR g37)))
theorem q218 : F29 (.code c2_58) cx2 l2_32.st (cutK l2_33 cx2.sz) = true := (andR (andR (andR (andR g37))))
theorem g24 : (roundsK (F0) (inner c1_11) cx1 2 l1_7.st (litB l1_8 cx1.sz) && (seqsK (F27) cx29 7 c29_8 l29_8.st (litB l29_9 cx29.sz) && (seqsK (F15) cx18 4 c18_0 l18_0.st (litB l18_1 cx18.sz) && (F25 (.code c27_3) cx27 l27_3.st K27 && seqsK (F24) cx2 1 c2_54 l2_30.st (litB l2_31 cx2.sz))))) = true := by kernel_rfl
theorem q18 : roundsK (F0) (inner c1_11) cx1 2 l1_7.st (litB l1_8 cx1.sz) = true := andL g24
theorem q214 : seqsK (F27) cx29 7 c29_8 l29_8.st (litB l29_9 cx29.sz) = true := andL (andR g24)
theorem q147 : seqsK (F15) cx18 4 c18_0 l18_0.st (litB l18_1 cx18.sz) = true := andL (andR (andR g24))
theorem q198 : F25 (.code c27_3) cx27 l27_3.st K27 = true := andL (andR (andR (andR g24)))
theorem q189 : seqsK (F24) cx2 1 c2_54 l2_30.st (litB l2_31 cx2.sz) = true := (andR (andR (andR (andR g24))))
end Lk
end Go.Proofs.YtajoljoegbeiiaaGreatDoor
