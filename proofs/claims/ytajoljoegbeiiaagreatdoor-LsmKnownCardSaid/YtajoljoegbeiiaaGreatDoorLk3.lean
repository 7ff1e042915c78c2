/-
  acreage/acreagelaw14.LsmKnown: pieces of the run.
-/
import Derived.Test.YtajoljoegbeiiaaGreatDoorLkL2
namespace Go.Proofs.YtajoljoegbeiiaaGreatDoor
set_option linter.all false
set_option maxRecDepth 1000000
namespace Lk
open Ex Go.RowKit
theorem g44 : (seqsK (F1) cx5 4 c5_1 l5_1.st (litB l5_2 cx5.sz) && (roundsK (F0) (inner c1_21) cx1 2 l1_41.st (litB l1_42 cx1.sz) && (F5 (.code c7_3) cx7 l7_3.st K7 && F17 (.code c17_3) cx17 l17_3.st K17))) = true := by kernel_rfl
theorem q73 : seqsK (F1) cx5 4 c5_1 l5_1.st (litB l5_2 cx5.sz) = true := andL g44
theorem q52 : roundsK (F0) (inner c1_21) cx1 2 l1_41.st (litB l1_42 cx1.sz) = true := andL (andR g44)
theorem q92 : F5 (.code c7_3) cx7 l7_3.st K7 = true := andL (andR (andR g44))
theorem q156 : F17 (.code c17_3) cx17 l17_3.st K17 = true := (andR (andR (andR g44)))
theorem g4 : (seqsK (F24) cx28 2 c28_0 l28_0.st (litB l28_1 cx28.sz) && (seqsK (F22) cx24 1 c24_1 l24_1.st (litB l24_2 cx24.sz) && (F21 (.code c25_2) cx25 l25_2.st K25 && F3 (.code c3_3) cx3 l3_3.st K3))) = true := by kernel_rfl
theorem q193 : seqsK (F24) cx28 2 c28_0 l28_0.st (litB l28_1 cx28.sz) = true := andL g4
theorem q181 : seqsK (F22) cx24 1 c24_1 l24_1.st (litB l24_2 cx24.sz) = true := andL (andR g4)
theorem q180 : F21 (.code c25_2) cx25 l25_2.st K25 = true := andL (andR (andR g4))
theorem q80 : F3 (.code c3_3) cx3 l3_3.st K3 = true := (andR (andR (andR g4)))
theorem g19 : (roundsK (F0) (inner c1_11) cx1 2 l1_11.st (litB l1_12 cx1.sz) && (seqsK (F7) cx9 7 c9_0 l9_0.st (litB l9_1 cx9.sz) && (F15 (.code c19_2) cx19 l19_2.st K19 && seqsK (F1) cx2 1 c2_5 l2_2.st (litB l2_3 cx2.sz)))) = true := by kernel_rfl
theorem q22 : roundsK (F0) (inner c1_11) cx1 2 l1_11.st (litB l1_12 cx1.sz) = true := andL g19
theorem q100 : seqsK (F7) cx9 7 c9_0 l9_0.st (litB l9_1 cx9.sz) = true := andL (andR g19)
theorem q150 : F15 (.code c19_2) cx19 l19_2.st K19 = true := andL (andR (andR g19))
theorem q68 : seqsK (F1) cx2 1 c2_5 l2_2.st (litB l2_3 cx2.sz) = true := (andR (andR (andR g19)))
theorem g31 : (roundsK (F26) (inner c30_3) cx30 6 l30_1.st (litB l30_2 cx30.sz) && (F13 (.code c15_9) cx15 l15_9.st K15 && (seqsK (F0) cx0 3 c0_0 ⟨.nil, [], hp0 GL, 1000⟩ (litB l0_0 cx0.sz) && (F9 (.code c9_3) cx9 l9_3.st K9 && F20 (.code c20_3) cx20 l20_3.st K20)))) = true := by kernel_rfl
theorem q203 : roundsK (F26) (inner c30_3) cx30 6 l30_1.st (litB l30_2 cx30.sz) = true := andL g31
theorem q139 : F13 (.code c15_9) cx15 l15_9.st K15 = true := andL (andR g31)
theorem q0 : seqsK (F0) cx0 3 c0_0 ⟨.nil, [], hp0 GL, 1000⟩ (litB l0_0 cx0.sz) = true := andL (andR (andR g31))
theorem q110 : F9 (.code c9_3) cx9 l9_3.st K9 = true := andL (andR (andR (andR g31)))
theorem q171 : F20 (.code c20_3) cx20 l20_3.st K20 = true := (andR (andR (andR (andR g31))))
end Lk
end Go.Proofs.YtajoljoegbeiiaaGreatDoor
