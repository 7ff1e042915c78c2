/-
  acreage/acreagelaw14.LsmKnown: pieces of the run.
-/
import Derived.Test.YtajoljoegbeiiaaGreatDoorLkL2
namespace Go.Proofs.YtajoljoegbeiiaaGreatDoor
set_option linter.all false
set_option maxRecDepth 1000000
namespace Lk
open Ex Go.RowKit
theorem g1 : (roundsK (F0) (inner c1_21) cx1 2 l1_34.st (litB l1_35 cx1.sz) && (seqsK (F16) cx18 1 c18_1 l18_1.st (litB l18_2 cx18.sz) && (seqsK (F0) cx0 1 c0_2 l0_0.st (litB l0_1 cx0.sz) && seqsK (F15) cx2 1 c2_33 l2_18.st (litB l2_19 cx2.sz)))) = true := by kernel_rfl
theorem q45 : roundsK (F0) (inner c1_21) cx1 2 l1_34.st (litB l1_35 cx1.sz) = true := andL g1
theorem q151 : seqsK (F16) cx18 1 c18_1 l18_1.st (litB l18_2 cx18.sz) = true := andL (andR g1)
theorem q1 : seqsK (F0) cx0 1 c0_2 l0_0.st (litB l0_1 cx0.sz) = true := andL (andR (andR g1))
theorem q144 : seqsK (F15) cx2 1 c2_33 l2_18.st (litB l2_19 cx2.sz) = true := (andR (andR (andR g1)))
theorem g17 : (roundsK (F0) (inner c1_11) cx1 2 l1_13.st (litB l1_14 cx1.sz) && (seqsK (F1) cx3 7 c3_0 l3_0.st (litB l3_1 cx3.sz) && (seqsK (F26) cx29 13 c29_0 l29_0.st (litB l29_1 cx29.sz) && F4 (.code c2_10) cx2 l2_5.st (cutK l2_6 cx2.sz)))) = true := by kernel_rfl
theorem q24 : roundsK (F0) (inner c1_11) cx1 2 l1_13.st (litB l1_14 cx1.sz) = true := andL g17
theorem q70 : seqsK (F1) cx3 7 c3_0 l3_0.st (litB l3_1 cx3.sz) = true := andL (andR g17)
theorem q200 : seqsK (F26) cx29 13 c29_0 l29_0.st (litB l29_1 cx29.sz) = true := andL (andR (andR g17))
theorem q82 : F4 (.code c2_10) cx2 l2_5.st (cutK l2_6 cx2.sz) = true := (andR (andR (andR g17)))
theorem g20 : (roundsK (F0) (inner c1_11) cx1 2 l1_9.st (litB l1_10 cx1.sz) && (seqsK (F4) cx6 7 c6_0 l6_0.st (litB l6_1 cx6.sz) && (seqsK (F12) cx15 13 c15_0 l15_0.st (litB l15_1 cx15.sz) && F0 (.code c1_26) cx1 l1_54.st K1))) = true := by kernel_rfl
theorem q20 : roundsK (F0) (inner c1_11) cx1 2 l1_9.st (litB l1_10 cx1.sz) = true := andL g20
theorem q85 : seqsK (F4) cx6 7 c6_0 l6_0.st (litB l6_1 cx6.sz) = true := andL (andR g20)
theorem q124 : seqsK (F12) cx15 13 c15_0 l15_0.st (litB l15_1 cx15.sz) = true := andL (andR (andR g20))
theorem q65 : F0 (.code c1_26) cx1 l1_54.st K1 = true := (andR (andR (andR g20)))
theorem g28 : (seqsK (F4) cx8 2 c8_0 l8_0.st (litB l8_1 cx8.sz) && (seqsK (F19) cx21 5 c21_2 l21_2.st (litB l21_3 cx21.sz) && (seqsK (F1) cx4 4 c4_0 l4_0.st (litB l4_1 cx4.sz) && (seqsK (F12) cx16 1 c16_4 l16_4.st (litB l16_5 cx16.sz) && seqsK (F21) cx2 1 c2_47 l2_26.st (litB l2_27 cx2.sz))))) = true := by kernel_rfl
theorem q87 : seqsK (F4) cx8 2 c8_0 l8_0.st (litB l8_1 cx8.sz) = true := andL g28
theorem q167 : seqsK (F19) cx21 5 c21_2 l21_2.st (litB l21_3 cx21.sz) = true := andL (andR g28)
theorem q71 : seqsK (F1) cx4 4 c4_0 l4_0.st (litB l4_1 cx4.sz) = true := andL (andR (andR g28))
theorem q130 : seqsK (F12) cx16 1 c16_4 l16_4.st (litB l16_5 cx16.sz) = true := andL (andR (andR (andR g28)))
theorem q174 : seqsK (F21) cx2 1 c2_47 l2_26.st (litB l2_27 cx2.sz) = true := (andR (andR (andR (andR g28))))
end Lk
end Go.Proofs.YtajoljoegbeiiaaGreatDoor
