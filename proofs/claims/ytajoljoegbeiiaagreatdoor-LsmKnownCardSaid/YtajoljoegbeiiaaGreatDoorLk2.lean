/-
  acreage/acreagelaw14.LsmKnown: pieces of the run.
-/
import Derived.Test.YtajoljoegbeiiaaGreatDoorLkL2
namespace Go.Proofs.YtajoljoegbeiiaaGreatDoor
set_option linter.all false
set_option maxRecDepth 1000000
namespace Lk
open Ex Go.RowKit
theorem g5 : (roundsK (F0) (inner c1_21) cx1 2 l1_36.st (litB l1_37 cx1.sz) && (seqsK (F29) cx2 1 c2_61 l2_35.st (litB l2_36 cx2.sz) && (F0 (.code c0_4) cx0 l0_3.st (exK 0 l0_4 cx0.sz) && seqsK (F17) cx17 1 c17_1 l17_1.st (litB l17_2 cx17.sz)))) = true := by kernel_rfl
theorem q47 : roundsK (F0) (inner c1_21) cx1 2 l1_36.st (litB l1_37 cx1.sz) = true := andL g5
theorem q221 : seqsK (F29) cx2 1 c2_61 l2_35.st (litB l2_36 cx2.sz) = true := andL (andR g5)
theorem q4 : F0 (.code c0_4) cx0 l0_3.st (exK 0 l0_4 cx0.sz) = true := andL (andR (andR g5))
theorem q154 : seqsK (F17) cx17 1 c17_1 l17_1.st (litB l17_2 cx17.sz) = true := (andR (andR (andR g5)))
theorem g18 : (seqsK (F21) cx25 2 c25_0 l25_0.st (litB l25_1 cx25.sz) && (seqsK (F10) cx12 7 c12_0 l12_0.st (litB l12_1 cx12.sz) && (seqsK (F24) cx2 2 c2_57 l2_31.st (litB l2_32 cx2.sz) && F4 (.code c2_9) cx2 l2_4.st (cutK l2_5 cx2.sz)))) = true := by kernel_rfl
theorem q178 : seqsK (F21) cx25 2 c25_0 l25_0.st (litB l25_1 cx25.sz) = true := andL g18
theorem q115 : seqsK (F10) cx12 7 c12_0 l12_0.st (litB l12_1 cx12.sz) = true := andL (andR g18)
theorem q190 : seqsK (F24) cx2 2 c2_57 l2_31.st (litB l2_32 cx2.sz) = true := andL (andR (andR g18))
theorem q81 : F4 (.code c2_9) cx2 l2_4.st (cutK l2_5 cx2.sz) = true := (andR (andR (andR g18)))
theorem g6 : (roundsK (F0) (inner c0_4) cx0 2 l0_2.st (litB l0_3 cx0.sz) && (seqsK (F8) cx10 1 c10_1 l10_1.st (litB l10_2 cx10.sz) && (seqsK (F15) cx2 2 c2_36 l2_19.st (litB l2_20 cx2.sz) && seqsK (F1) cx2 1 c2_2 l2_1.st (litB l2_2 cx2.sz)))) = true := by kernel_rfl
theorem q3 : roundsK (F0) (inner c0_4) cx0 2 l0_2.st (litB l0_3 cx0.sz) = true := andL g6
theorem q105 : seqsK (F8) cx10 1 c10_1 l10_1.st (litB l10_2 cx10.sz) = true := andL (andR g6)
theorem q145 : seqsK (F15) cx2 2 c2_36 l2_19.st (litB l2_20 cx2.sz) = true := andL (andR (andR g6))
theorem q67 : seqsK (F1) cx2 1 c2_2 l2_1.st (litB l2_2 cx2.sz) = true := (andR (andR (andR g6)))
theorem g30 : (roundsK (F0) (inner c1_11) cx1 2 l1_5.st (litB l1_6 cx1.sz) && (seqsK (F22) cx24 5 c24_2 l24_2.st (litB l24_3 cx24.sz) && (seqsK (F1) cx2 3 c2_0 l2_0.st (litB l2_1 cx2.sz) && (F11 (.code c13_3) cx13 l13_3.st K13 && F21 (.code c2_44) cx2 l2_24.st (cutK l2_25 cx2.sz))))) = true := by kernel_rfl
theorem q16 : roundsK (F0) (inner c1_11) cx1 2 l1_5.st (litB l1_6 cx1.sz) = true := andL g30
theorem q182 : seqsK (F22) cx24 5 c24_2 l24_2.st (litB l24_3 cx24.sz) = true := andL (andR g30)
theorem q66 : seqsK (F1) cx2 3 c2_0 l2_0.st (litB l2_1 cx2.sz) = true := andL (andR (andR g30))
theorem q122 : F11 (.code c13_3) cx13 l13_3.st K13 = true := andL (andR (andR (andR g30)))
theorem q172 : F21 (.code c2_44) cx2 l2_24.st (cutK l2_25 cx2.sz) = true := (andR (andR (andR (andR g30))))
end Lk
end Go.Proofs.YtajoljoegbeiiaaGreatDoor
