/-
  acreage/acreagelaw14.LsmKnown: pieces of the run.
-/
import Derived.Test.YtajoljoegbeiiaaGreatDoorLkL2
namespace Go.Proofs.YtajoljoegbeiiaaGreatDoor
set_option linter.all false
set_option maxRecDepth 1000000
namespace Lk
open Ex Go.RowKit
theorem g10 : (roundsK (F0) (inner c1_11) cx1 2 l1_19.st (litB l1_20 cx1.sz) && (seqsK (F0) cx0 3 c0_8 l0_7.st (litB l0_8 cx0.sz) && (F0 (.code c1_23) cx1 l1_51.st (cutK l1_52 cx1.sz) && seqsK (F14) cx12 1 c12_2 l12_2.st (litB l12_3 cx12.sz)))) = true := by kernel_rfl
theorem q30 : roundsK (F0) (inner c1_11) cx1 2 l1_19.st (litB l1_20 cx1.sz) = true := andL g10
theorem q8 : seqsK (F0) cx0 3 c0_8 l0_7.st (litB l0_8 cx0.sz) = true := andL (andR g10)
theorem q62 : F0 (.code c1_23) cx1 l1_51.st (cutK l1_52 cx1.sz) = true := andL (andR (andR g10))
theorem q140 : seqsK (F14) cx12 1 c12_2 l12_2.st (litB l12_3 cx12.sz) = true := (andR (andR (andR g10)))
theorem g2 : (roundsK (F0) (inner c1_11) cx1 2 l1_23.st (litB l1_24 cx1.sz) && (seqsK (F19) cx21 1 c21_1 l21_1.st (litB l21_2 cx21.sz) && (seqsK (F13) cx15 1 c15_3 l15_3.st (litB l15_4 cx15.sz) && F6 (.code c6_3) cx6 l6_3.st K6))) = true := by kernel_rfl
theorem q34 : roundsK (F0) (inner c1_11) cx1 2 l1_23.st (litB l1_24 cx1.sz) = true := andL g2
theorem q166 : seqsK (F19) cx21 1 c21_1 l21_1.st (litB l21_2 cx21.sz) = true := andL (andR g2)
theorem q133 : seqsK (F13) cx15 1 c15_3 l15_3.st (litB l15_4 cx15.sz) = true := andL (andR (andR g2))
theorem q95 : F6 (.code c6_3) cx6 l6_3.st K6 = true := (andR (andR (andR g2)))
theorem g35 : (roundsK (F27) (inner c29_7) cx29 1 l29_6.st (litB l29_7 cx29.sz) && (roundsK (F0) (inner c1_21) cx1 2 l1_47.st (litB l1_48 cx1.sz) && (F7 (.code c11_2) cx11 l11_2.st K11 && (F0 (.code c1_21) cx1 l1_49.st (exK 2 l1_50 cx1.sz) && F29 (.code c2_60) cx2 l2_34.st (exK 0 l2_35 cx2.sz))))) = true := by kernel_rfl
theorem q212 : roundsK (F27) (inner c29_7) cx29 1 l29_6.st (litB l29_7 cx29.sz) = true := andL g35
theorem q58 : roundsK (F0) (inner c1_21) cx1 2 l1_47.st (litB l1_48 cx1.sz) = true := andL (andR g35)
theorem q104 : F7 (.code c11_2) cx11 l11_2.st K11 = true := andL (andR (andR g35))
theorem q60 : F0 (.code c1_21) cx1 l1_49.st (exK 2 l1_50 cx1.sz) = true := andL (andR (andR (andR g35)))
theorem q220 : F29 (.code c2_60) cx2 l2_34.st (exK 0 l2_35 cx2.sz) = true := (andR (andR (andR (andR g35))))
theorem g26 : (seqsK (F7) cx11 2 c11_0 l11_0.st (litB l11_1 cx11.sz) && (seqsK (F8) cx10 5 c10_2 l10_2.st (litB l10_3 cx10.sz) && (seqsK (F4) cx7 4 c7_0 l7_0.st (litB l7_1 cx7.sz) && (seqsK (F20) cx20 1 c20_1 l20_1.st (litB l20_2 cx20.sz) && F23 (.code c23_3) cx23 l23_3.st K23)))) = true := by kernel_rfl
theorem q102 : seqsK (F7) cx11 2 c11_0 l11_0.st (litB l11_1 cx11.sz) = true := andL g26
theorem q106 : seqsK (F8) cx10 5 c10_2 l10_2.st (litB l10_3 cx10.sz) = true := andL (andR g26)
theorem q86 : seqsK (F4) cx7 4 c7_0 l7_0.st (litB l7_1 cx7.sz) = true := andL (andR (andR g26))
theorem q169 : seqsK (F20) cx20 1 c20_1 l20_1.st (litB l20_2 cx20.sz) = true := andL (andR (andR (andR g26)))
theorem q186 : F23 (.code c23_3) cx23 l23_3.st K23 = true := (andR (andR (andR (andR g26))))
end Lk
end Go.Proofs.YtajoljoegbeiiaaGreatDoor
