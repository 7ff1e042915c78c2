/-
  acreage/acreagelaw14.LsmKnown: pieces of the run.
-/
import Derived.Test.YtajoljoegbeiiaaGreatDoorLkL2
namespace Go.Proofs.YtajoljoegbeiiaaGreatDoor
set_option linter.all false
set_option maxRecDepth 1000000
namespace Lk
open Ex Go.RowKit
theorem g32 : (roundsK (F26) (inner c30_3) cx30 6 l30_2.st (litB l30_3 cx30.sz) && (roundsK (F0) (inner c1_11) cx1 2 l1_6.st (litB l1_7 cx1.sz) && (seqsK (F23) cx23 1 c23_2 l23_2.st (litB l23_3 cx23.sz) && seqsK (F10) cx2 1 c2_26 l2_14.st (litB l2_15 cx2.sz)))) = true := by kernel_rfl
theorem q204 : roundsK (F26) (inner c30_3) cx30 6 l30_2.st (litB l30_3 cx30.sz) = true := andL g32
theorem q17 : roundsK (F0) (inner c1_11) cx1 2 l1_6.st (litB l1_7 cx1.sz) = true := andL (andR g32)
theorem q185 : seqsK (F23) cx23 1 c23_2 l23_2.st (litB l23_3 cx23.sz) = true := andL (andR (andR g32))
theorem q113 : seqsK (F10) cx2 1 c2_26 l2_14.st (litB l2_15 cx2.sz) = true := (andR (andR (andR g32)))
theorem g0 : (roundsK (F0) (inner c1_21) cx1 2 l1_30.st (litB l1_31 cx1.sz) && (F26 (.code c30_3) cx30 l30_3.st (exK 0 l30_4 cx30.sz) && (seqsK (F17) cx17 1 c17_2 l17_2.st (litB l17_3 cx17.sz) && F10 (.code c2_23) cx2 l2_12.st (cutK l2_13 cx2.sz)))) = true := by kernel_rfl
theorem q41 : roundsK (F0) (inner c1_21) cx1 2 l1_30.st (litB l1_31 cx1.sz) = true := andL g0
theorem q205 : F26 (.code c30_3) cx30 l30_3.st (exK 0 l30_4 cx30.sz) = true := andL (andR g0)
theorem q155 : seqsK (F17) cx17 1 c17_2 l17_2.st (litB l17_3 cx17.sz) = true := andL (andR (andR g0))
theorem q111 : F10 (.code c2_23) cx2 l2_12.st (cutK l2_13 cx2.sz) = true := (andR (andR (andR g0)))
theorem g40 : (roundsK (F0) (inner c1_21) cx1 2 l1_48.st (litB l1_49 cx1.sz) && (roundsK (F0) (inner c1_11) cx1 2 l1_8.st (litB l1_9 cx1.sz) && (F24 (.code c28_2) cx28 l28_2.st K28 && (seqsK (F0) cx1 1 c1_5 l1_2.st (litB l1_3 cx1.sz) && F27 (.code c29_7) cx29 l29_7.st (exK 8 l29_8 cx29.sz))))) = true := by kernel_rfl
theorem q59 : roundsK (F0) (inner c1_21) cx1 2 l1_48.st (litB l1_49 cx1.sz) = true := andL g40
theorem q19 : roundsK (F0) (inner c1_11) cx1 2 l1_8.st (litB l1_9 cx1.sz) = true := andL (andR g40)
theorem q195 : F24 (.code c28_2) cx28 l28_2.st K28 = true := andL (andR (andR g40))
theorem q13 : seqsK (F0) cx1 1 c1_5 l1_2.st (litB l1_3 cx1.sz) = true := andL (andR (andR (andR g40)))
theorem q213 : F27 (.code c29_7) cx29 l29_7.st (exK 8 l29_8 cx29.sz) = true := (andR (andR (andR (andR g40))))
theorem g21 : (roundsK (F0) (inner c1_11) cx1 2 l1_20.st (litB l1_21 cx1.sz) && (seqsK (F2) cx4 5 c4_2 l4_2.st (litB l4_3 cx4.sz) && (seqsK (F18) cx21 4 c21_0 l21_0.st (litB l21_1 cx21.sz) && (seqsK (F27) cx29 1 c29_2 l29_2.st (litB l29_3 cx29.sz) && seqsK (F26) cx30 1 c30_4 l30_4.st (litB l30_5 cx30.sz))))) = true := by kernel_rfl
theorem q31 : roundsK (F0) (inner c1_11) cx1 2 l1_20.st (litB l1_21 cx1.sz) = true := andL g21
theorem q76 : seqsK (F2) cx4 5 c4_2 l4_2.st (litB l4_3 cx4.sz) = true := andL (andR g21)
theorem q162 : seqsK (F18) cx21 4 c21_0 l21_0.st (litB l21_1 cx21.sz) = true := andL (andR (andR g21))
theorem q208 : seqsK (F27) cx29 1 c29_2 l29_2.st (litB l29_3 cx29.sz) = true := andL (andR (andR (andR g21)))
theorem q206 : seqsK (F26) cx30 1 c30_4 l30_4.st (litB l30_5 cx30.sz) = true := (andR (andR (andR (andR g21))))
theorem g43 : (roundsK (F13) (inner c15_7) cx15 1 l15_6.st (litB l15_7 cx15.sz) && (seqsK (F30) cx31 5 c31_0 l31_0.st (litB l31_1 cx31.sz) && (seqsK (F0) cx1 1 c1_25 l1_53.st (litB l1_54 cx1.sz) && (seqsK (F9) cx9 1 c9_2 l9_2.st (litB l9_3 cx9.sz) && seqsK (F18) cx2 1 c2_40 l2_22.st (litB l2_23 cx2.sz))))) = true := by kernel_rfl
theorem q136 : roundsK (F13) (inner c15_7) cx15 1 l15_6.st (litB l15_7 cx15.sz) = true := andL g43
theorem q225 : seqsK (F30) cx31 5 c31_0 l31_0.st (litB l31_1 cx31.sz) = true := andL (andR g43)
theorem q64 : seqsK (F0) cx1 1 c1_25 l1_53.st (litB l1_54 cx1.sz) = true := andL (andR (andR g43))
theorem q109 : seqsK (F9) cx9 1 c9_2 l9_2.st (litB l9_3 cx9.sz) = true := andL (andR (andR (andR g43)))
theorem q159 : seqsK (F18) cx2 1 c2_40 l2_22.st (litB l2_23 cx2.sz) = true := (andR (andR (andR (andR g43))))
end Lk
end Go.Proofs.YtajoljoegbeiiaaGreatDoor
