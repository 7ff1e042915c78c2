/-
  acreage/acreagelaw14.LsmKnown: pieces of the run.
-/
import Derived.Test.YtajoljoegbeiiaaGreatDoorLkL2
namespace Go.Proofs.YtajoljoegbeiiaaGreatDoor
set_option linter.all false
set_option maxRecDepth 1000000
namespace Lk
open Ex Go.RowKit
theorem g48 : (roundsK (F0) (inner c1_21) cx1 2 l1_39.st (litB l1_40 cx1.sz) && (seqsK (F21) cx25 4 c25_1 l25_1.st (litB l25_2 cx25.sz) && (seqsK (F3) cx3 1 c3_2 l3_2.st (litB l3_3 cx3.sz) && F15 (.code c2_31) cx2 l2_17.st (cutK l2_18 cx2.sz)))) = true := by kernel_rfl
theorem q50 : roundsK (F0) (inner c1_21) cx1 2 l1_39.st (litB l1_40 cx1.sz) = true := andL g48
theorem q179 : seqsK (F21) cx25 4 c25_1 l25_1.st (litB l25_2 cx25.sz) = true := andL (andR g48)
theorem q79 : seqsK (F3) cx3 1 c3_2 l3_2.st (litB l3_3 cx3.sz) = true := andL (andR (andR g48))
theorem q143 : F15 (.code c2_31) cx2 l2_17.st (cutK l2_18 cx2.sz) = true := (andR (andR (andR g48)))
theorem g16 : (seqsK (F18) cx22 2 c22_0 l22_0.st (litB l22_1 cx22.sz) && (seqsK (F24) cx26 7 c26_0 l26_0.st (litB l26_1 cx26.sz) && (F4 (.code c8_2) cx8 l8_2.st K8 && seqsK (F4) cx2 1 c2_12 l2_6.st (litB l2_7 cx2.sz)))) = true := by kernel_rfl
theorem q163 : seqsK (F18) cx22 2 c22_0 l22_0.st (litB l22_1 cx22.sz) = true := andL g16
theorem q191 : seqsK (F24) cx26 7 c26_0 l26_0.st (litB l26_1 cx26.sz) = true := andL (andR g16)
theorem q89 : F4 (.code c8_2) cx8 l8_2.st K8 = true := andL (andR (andR g16))
theorem q83 : seqsK (F4) cx2 1 c2_12 l2_6.st (litB l2_7 cx2.sz) = true := (andR (andR (andR g16)))
theorem g9 : (roundsK (F0) (inner c1_11) cx1 2 l1_21.st (litB l1_22 cx1.sz) && (seqsK (F11) cx13 1 c13_1 l13_1.st (litB l13_2 cx13.sz) && (F10 (.code c14_2) cx14 l14_2.st K14 && (F0 (.code c1_24) cx1 l1_52.st (exK 0 l1_53 cx1.sz) && seqsK (F30) cx0 1 c0_11 l0_10.st (litB l0_11 cx0.sz))))) = true := by kernel_rfl
theorem q32 : roundsK (F0) (inner c1_11) cx1 2 l1_21.st (litB l1_22 cx1.sz) = true := andL g9
theorem q120 : seqsK (F11) cx13 1 c13_1 l13_1.st (litB l13_2 cx13.sz) = true := andL (andR g9)
theorem q119 : F10 (.code c14_2) cx14 l14_2.st K14 = true := andL (andR (andR g9))
theorem q63 : F0 (.code c1_24) cx1 l1_52.st (exK 0 l1_53 cx1.sz) = true := andL (andR (andR (andR g9)))
theorem q223 : seqsK (F30) cx0 1 c0_11 l0_10.st (litB l0_11 cx0.sz) = true := (andR (andR (andR (andR g9))))
theorem g27 : (roundsK (F0) (inner c1_11) cx1 2 l1_16.st (litB l1_17 cx1.sz) && (seqsK (F11) cx13 5 c13_2 l13_2.st (litB l13_3 cx13.sz) && (seqsK (F0) cx1 3 c1_0 l1_0.st (litB l1_1 cx1.sz) && (seqsK (F12) cx12 1 c12_1 l12_1.st (litB l12_2 cx12.sz) && F21 (.code c2_45) cx2 l2_25.st (cutK l2_26 cx2.sz))))) = true := by kernel_rfl
theorem q27 : roundsK (F0) (inner c1_11) cx1 2 l1_16.st (litB l1_17 cx1.sz) = true := andL g27
theorem q121 : seqsK (F11) cx13 5 c13_2 l13_2.st (litB l13_3 cx13.sz) = true := andL (andR g27)
theorem q11 : seqsK (F0) cx1 3 c1_0 l1_0.st (litB l1_1 cx1.sz) = true := andL (andR (andR g27))
theorem q123 : seqsK (F12) cx12 1 c12_1 l12_1.st (litB l12_2 cx12.sz) = true := andL (andR (andR (andR g27)))
theorem q173 : F21 (.code c2_45) cx2 l2_25.st (cutK l2_26 cx2.sz) = true := (andR (andR (andR (andR g27))))
end Lk
end Go.Proofs.YtajoljoegbeiiaaGreatDoor
