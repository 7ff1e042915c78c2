/-
  acreage/acreagelaw14.LsmKnown: pieces of the run.
-/
import Derived.Test.YtajoljoegbeiiaaGreatDoorLkL2
namespace Go.Proofs.YtajoljoegbeiiaaGreatDoor
set_option linter.all false
set_option maxRecDepth 1000000
namespace Lk
open Ex Go.RowKit
theorem g12 : (roundsK (F0) (inner c1_11) cx1 2 l1_15.st (litB l1_16 cx1.sz) && (seqsK (F0) cx0 3 c0_6 l0_5.st (litB l0_6 cx0.sz) && (F0 (.code c1_13) cx1 l1_26.st (cutK l1_27 cx1.sz) && seqsK (F13) cx15 1 c15_4 l15_4.st (litB l15_5 cx15.sz)))) = true := by kernel_rfl
theorem q26 : roundsK (F0) (inner c1_11) cx1 2 l1_15.st (litB l1_16 cx1.sz) = true := andL g12
theorem q6 : seqsK (F0) cx0 3 c0_6 l0_5.st (litB l0_6 cx0.sz) = true := andL (andR g12)
theorem q37 : F0 (.code c1_13) cx1 l1_26.st (cutK l1_27 cx1.sz) = true := andL (andR (andR g12))
theorem q134 : seqsK (F13) cx15 1 c15_4 l15_4.st (litB l15_5 cx15.sz) = true := (andR (andR (andR g12)))
theorem g14 : (roundsK (F0) (inner c1_21) cx1 2 l1_29.st (litB l1_30 cx1.sz) && (seqsK (F21) cx23 7 c23_0 l23_0.st (litB l23_1 cx23.sz) && (seqsK (F13) cx15 1 c15_2 l15_2.st (litB l15_3 cx15.sz) && seqsK (F7) cx2 1 c2_19 l2_10.st (litB l2_11 cx2.sz)))) = true := by kernel_rfl
theorem q40 : roundsK (F0) (inner c1_21) cx1 2 l1_29.st (litB l1_30 cx1.sz) = true := andL g14
theorem q176 : seqsK (F21) cx23 7 c23_0 l23_0.st (litB l23_1 cx23.sz) = true := andL (andR g14)
theorem q132 : seqsK (F13) cx15 1 c15_2 l15_2.st (litB l15_3 cx15.sz) = true := andL (andR (andR g14))
theorem q98 : seqsK (F7) cx2 1 c2_19 l2_10.st (litB l2_11 cx2.sz) = true := (andR (andR (andR g14)))
theorem g38 : (roundsK (F0) (inner c1_21) cx1 2 l1_31.st (litB l1_32 cx1.sz) && (roundsK (F0) (inner c1_21) cx1 2 l1_45.st (litB l1_46 cx1.sz) && (F1 (.code c5_2) cx5 l5_2.st K5 && (F0 (.code c1_11) cx1 l1_24.st (exK 2 l1_25 cx1.sz) && F28 (.code c26_3) cx26 l26_3.st K26)))) = true := by kernel_rfl
theorem q42 : roundsK (F0) (inner c1_21) cx1 2 l1_31.st (litB l1_32 cx1.sz) = true := andL g38
theorem q56 : roundsK (F0) (inner c1_21) cx1 2 l1_45.st (litB l1_46 cx1.sz) = true := andL (andR g38)
theorem q74 : F1 (.code c5_2) cx5 l5_2.st K5 = true := andL (andR (andR g38))
theorem q35 : F0 (.code c1_11) cx1 l1_24.st (exK 2 l1_25 cx1.sz) = true := andL (andR (andR (andR g38)))
theorem q217 : F28 (.code c26_3) cx26 l26_3.st K26 = true := (andR (andR (andR (andR g38))))
theorem g23 : (seqsK (F10) cx14 2 c14_0 l14_0.st (litB l14_1 cx14.sz) && (seqsK (F5) cx7 5 c7_2 l7_2.st (litB l7_3 cx7.sz) && (seqsK (F10) cx13 4 c13_0 l13_0.st (litB l13_1 cx13.sz) && (F22 (.code c24_3) cx24 l24_3.st K24 && F24 (.code c2_52) cx2 l2_29.st (cutK l2_30 cx2.sz))))) = true := by kernel_rfl
theorem q117 : seqsK (F10) cx14 2 c14_0 l14_0.st (litB l14_1 cx14.sz) = true := andL g23
theorem q91 : seqsK (F5) cx7 5 c7_2 l7_2.st (litB l7_3 cx7.sz) = true := andL (andR g23)
theorem q116 : seqsK (F10) cx13 4 c13_0 l13_0.st (litB l13_1 cx13.sz) = true := andL (andR (andR g23))
theorem q183 : F22 (.code c24_3) cx24 l24_3.st K24 = true := andL (andR (andR (andR g23)))
theorem q188 : F24 (.code c2_52) cx2 l2_29.st (cutK l2_30 cx2.sz) = true := (andR (andR (andR (andR g23))))
theorem g50 : (seqsK (F7) cx11 4 c11_1 l11_1.st (litB l11_2 cx11.sz) && (F12 (.code c16_3) cx16 l16_3.st (exK 0 l16_4 cx16.sz) && (F31 (.code c0_13) cx0 l0_12.st K0 && (seqsK (F6) cx6 1 c6_2 l6_2.st (litB l6_3 cx6.sz) && F18 (.code c2_37) cx2 l2_20.st (cutK l2_21 cx2.sz))))) = true := by kernel_rfl
theorem q103 : seqsK (F7) cx11 4 c11_1 l11_1.st (litB l11_2 cx11.sz) = true := andL g50
theorem q129 : F12 (.code c16_3) cx16 l16_3.st (exK 0 l16_4 cx16.sz) = true := andL (andR g50)
theorem q227 : F31 (.code c0_13) cx0 l0_12.st K0 = true := andL (andR (andR g50))
theorem q94 : seqsK (F6) cx6 1 c6_2 l6_2.st (litB l6_3 cx6.sz) = true := andL (andR (andR (andR g50)))
theorem q157 : F18 (.code c2_37) cx2 l2_20.st (cutK l2_21 cx2.sz) = true := (andR (andR (andR (andR g50))))
end Lk
end Go.Proofs.YtajoljoegbeiiaaGreatDoor
