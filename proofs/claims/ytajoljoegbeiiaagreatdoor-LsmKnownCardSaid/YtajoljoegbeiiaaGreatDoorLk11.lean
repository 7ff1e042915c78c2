/-
  acreage/acreagelaw14.LsmKnown: pieces of the run.
-/
import Derived.Test.YtajoljoegbeiiaaGreatDoorLkL2
namespace Go.Proofs.YtajoljoegbeiiaaGreatDoor
set_option linter.all false
set_option maxRecDepth 1000000
namespace Lk
open Ex Go.RowKit
theorem g49 : (seqsK (F15) cx19 4 c19_1 l19_1.st (litB l19_2 cx19.sz) && (roundsK (F0) (inner c1_21) cx1 2 l1_37.st (litB l1_38 cx1.sz) && (seqsK (F0) cx0 1 c0_7 l0_6.st (litB l0_7 cx0.sz) && seqsK (F12) cx16 2 c16_0 l16_0.st (litB l16_1 cx16.sz)))) = true := by kernel_rfl
theorem q149 : seqsK (F15) cx19 4 c19_1 l19_1.st (litB l19_2 cx19.sz) = true := andL g49
theorem q48 : roundsK (F0) (inner c1_21) cx1 2 l1_37.st (litB l1_38 cx1.sz) = true := andL (andR g49)
theorem q7 : seqsK (F0) cx0 1 c0_7 l0_6.st (litB l0_7 cx0.sz) = true := andL (andR (andR g49))
theorem q126 : seqsK (F12) cx16 2 c16_0 l16_0.st (litB l16_1 cx16.sz) = true := (andR (andR (andR g49)))
theorem g8 : (roundsK (F0) (inner c1_21) cx1 2 l1_38.st (litB l1_39 cx1.sz) && (seqsK (F5) cx7 1 c7_1 l7_1.st (litB l7_2 cx7.sz) && (F27 (.code c29_9) cx29 l29_9.st K29 && F10 (.code c2_24) cx2 l2_13.st (cutK l2_14 cx2.sz)))) = true := by kernel_rfl
theorem q49 : roundsK (F0) (inner c1_21) cx1 2 l1_38.st (litB l1_39 cx1.sz) = true := andL g8
theorem q90 : seqsK (F5) cx7 1 c7_1 l7_1.st (litB l7_2 cx7.sz) = true := andL (andR g8)
theorem q215 : F27 (.code c29_9) cx29 l29_9.st K29 = true := andL (andR (andR g8))
theorem q112 : F10 (.code c2_24) cx2 l2_13.st (cutK l2_14 cx2.sz) = true := (andR (andR (andR g8)))
theorem g41 : (roundsK (F13) (inner c15_7) cx15 1 l15_5.st (litB l15_6 cx15.sz) && (F30 (.code c31_1) cx31 l31_1.st K31 && (seqsK (F21) cx24 4 c24_0 l24_0.st (litB l24_1 cx24.sz) && (seqsK (F0) cx1 1 c1_2 l1_1.st (litB l1_2 cx1.sz) && seqsK (F27) cx29 1 c29_4 l29_4.st (litB l29_5 cx29.sz))))) = true := by kernel_rfl
theorem q135 : roundsK (F13) (inner c15_7) cx15 1 l15_5.st (litB l15_6 cx15.sz) = true := andL g41
theorem q226 : F30 (.code c31_1) cx31 l31_1.st K31 = true := andL (andR g41)
theorem q177 : seqsK (F21) cx24 4 c24_0 l24_0.st (litB l24_1 cx24.sz) = true := andL (andR (andR g41))
theorem q12 : seqsK (F0) cx1 1 c1_2 l1_1.st (litB l1_2 cx1.sz) = true := andL (andR (andR (andR g41)))
theorem q210 : seqsK (F27) cx29 1 c29_4 l29_4.st (litB l29_5 cx29.sz) = true := (andR (andR (andR (andR g41))))
theorem g42 : (seqsK (F24) cx28 4 c28_1 l28_1.st (litB l28_2 cx28.sz) && (roundsK (F0) (inner c1_11) cx1 2 l1_4.st (litB l1_5 cx1.sz) && (seqsK (F21) cx2 2 c2_50 l2_27.st (litB l2_28 cx2.sz) && (seqsK (F30) cx0 5 c0_12 l0_11.st (litB l0_12 cx0.sz) && F26 (.code c30_5) cx30 l30_5.st K30)))) = true := by kernel_rfl
theorem q194 : seqsK (F24) cx28 4 c28_1 l28_1.st (litB l28_2 cx28.sz) = true := andL g42
theorem q15 : roundsK (F0) (inner c1_11) cx1 2 l1_4.st (litB l1_5 cx1.sz) = true := andL (andR g42)
theorem q175 : seqsK (F21) cx2 2 c2_50 l2_27.st (litB l2_28 cx2.sz) = true := andL (andR (andR g42))
theorem q224 : seqsK (F30) cx0 5 c0_12 l0_11.st (litB l0_12 cx0.sz) = true := andL (andR (andR (andR g42)))
theorem q207 : F26 (.code c30_5) cx30 l30_5.st K30 = true := (andR (andR (andR (andR g42))))
end Lk
end Go.Proofs.YtajoljoegbeiiaaGreatDoor
