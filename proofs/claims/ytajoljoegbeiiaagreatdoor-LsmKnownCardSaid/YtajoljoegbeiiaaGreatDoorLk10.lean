/-
  acreage/acreagelaw14.LsmKnown: pieces of the run.
-/
import Derived.Test.YtajoljoegbeiiaaGreatDoorLkL2
namespace Go.Proofs.YtajoljoegbeiiaaGreatDoor
set_option linter.all false
set_option maxRecDepth 1000000
namespace Lk
open Ex Go.RowKit
theorem g46 : (seqsK (F18) cx22 4 c22_1 l22_1.st (litB l22_2 cx22.sz) && (seqsK (F4) cx8 4 c8_1 l8_1.st (litB l8_2 cx8.sz) && (seqsK (F0) cx0 1 c0_9 l0_8.st (litB l0_9 cx0.sz) && F12 (.code c16_5) cx16 l16_5.st K16))) = true := by kernel_rfl
theorem q164 : seqsK (F18) cx22 4 c22_1 l22_1.st (litB l22_2 cx22.sz) = true := andL g46
theorem q88 : seqsK (F4) cx8 4 c8_1 l8_1.st (litB l8_2 cx8.sz) = true := andL (andR g46)
theorem q9 : seqsK (F0) cx0 1 c0_9 l0_8.st (litB l0_9 cx0.sz) = true := andL (andR (andR g46))
theorem q131 : F12 (.code c16_5) cx16 l16_5.st K16 = true := (andR (andR (andR g46)))
theorem g13 : (seqsK (F1) cx5 2 c5_0 l5_0.st (litB l5_1 cx5.sz) && (seqsK (F15) cx17 7 c17_0 l17_0.st (litB l17_1 cx17.sz) && (F16 (.code c18_3) cx18 l18_3.st K18 && seqsK (F9) cx9 1 c9_1 l9_1.st (litB l9_2 cx9.sz)))) = true := by kernel_rfl
theorem q72 : seqsK (F1) cx5 2 c5_0 l5_0.st (litB l5_1 cx5.sz) = true := andL g13
theorem q146 : seqsK (F15) cx17 7 c17_0 l17_0.st (litB l17_1 cx17.sz) = true := andL (andR g13)
theorem q153 : F16 (.code c18_3) cx18 l18_3.st K18 = true := andL (andR (andR g13))
theorem q108 : seqsK (F9) cx9 1 c9_1 l9_1.st (litB l9_2 cx9.sz) = true := (andR (andR (andR g13)))
theorem g39 : (roundsK (F0) (inner c1_21) cx1 2 l1_44.st (litB l1_45 cx1.sz) && (roundsK (F0) (inner c1_11) cx1 2 l1_10.st (litB l1_11 cx1.sz) && (seqsK (F1) cx2 2 c2_8 l2_3.st (litB l2_4 cx2.sz) && (seqsK (F0) cx1 1 c1_9 l1_3.st (litB l1_4 cx1.sz) && seqsK (F28) cx26 1 c26_2 l26_2.st (litB l26_3 cx26.sz))))) = true := by kernel_rfl
theorem q55 : roundsK (F0) (inner c1_21) cx1 2 l1_44.st (litB l1_45 cx1.sz) = true := andL g39
theorem q21 : roundsK (F0) (inner c1_11) cx1 2 l1_10.st (litB l1_11 cx1.sz) = true := andL (andR g39)
theorem q69 : seqsK (F1) cx2 2 c2_8 l2_3.st (litB l2_4 cx2.sz) = true := andL (andR (andR g39))
theorem q14 : seqsK (F0) cx1 1 c1_9 l1_3.st (litB l1_4 cx1.sz) = true := andL (andR (andR (andR g39)))
theorem q216 : seqsK (F28) cx26 1 c26_2 l26_2.st (litB l26_3 cx26.sz) = true := (andR (andR (andR (andR g39))))
theorem g22 : (roundsK (F0) (inner c1_11) cx1 2 l1_18.st (litB l1_19 cx1.sz) && (seqsK (F13) cx15 7 c15_8 l15_8.st (litB l15_9 cx15.sz) && (seqsK (F18) cx2 2 c2_43 l2_23.st (litB l2_24 cx2.sz) && (seqsK (F26) cx26 1 c26_1 l26_1.st (litB l26_2 cx26.sz) && seqsK (F26) cx30 2 c30_0 l30_0.st (litB l30_1 cx30.sz))))) = true := by kernel_rfl
theorem q29 : roundsK (F0) (inner c1_11) cx1 2 l1_18.st (litB l1_19 cx1.sz) = true := andL g22
theorem q138 : seqsK (F13) cx15 7 c15_8 l15_8.st (litB l15_9 cx15.sz) = true := andL (andR g22)
theorem q160 : seqsK (F18) cx2 2 c2_43 l2_23.st (litB l2_24 cx2.sz) = true := andL (andR (andR g22))
theorem q199 : seqsK (F26) cx26 1 c26_1 l26_1.st (litB l26_2 cx26.sz) = true := andL (andR (andR (andR g22)))
theorem q202 : seqsK (F26) cx30 2 c30_0 l30_0.st (litB l30_1 cx30.sz) = true := (andR (andR (andR (andR g22))))
theorem g45 : (roundsK (F0) (inner c1_21) cx1 2 l1_33.st (litB l1_34 cx1.sz) && (seqsK (F25) cx27 5 c27_2 l27_2.st (litB l27_3 cx27.sz) && (seqsK (F0) cx0 5 c0_10 l0_9.st (litB l0_10 cx0.sz) && (F8 (.code c10_3) cx10 l10_3.st K10 && F18 (.code c2_38) cx2 l2_21.st (cutK l2_22 cx2.sz))))) = true := by kernel_rfl
theorem q44 : roundsK (F0) (inner c1_21) cx1 2 l1_33.st (litB l1_34 cx1.sz) = true := andL g45
theorem q197 : seqsK (F25) cx27 5 c27_2 l27_2.st (litB l27_3 cx27.sz) = true := andL (andR g45)
theorem q10 : seqsK (F0) cx0 5 c0_10 l0_9.st (litB l0_10 cx0.sz) = true := andL (andR (andR g45))
theorem q107 : F8 (.code c10_3) cx10 l10_3.st K10 = true := andL (andR (andR (andR g45)))
theorem q158 : F18 (.code c2_38) cx2 l2_21.st (cutK l2_22 cx2.sz) = true := (andR (andR (andR (andR g45))))
end Lk
end Go.Proofs.YtajoljoegbeiiaaGreatDoor
