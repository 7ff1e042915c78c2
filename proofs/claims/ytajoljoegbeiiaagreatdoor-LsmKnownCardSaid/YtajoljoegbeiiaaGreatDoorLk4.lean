/-
  acreage/acreagelaw14.LsmKnown: pieces of the run.
-/
import Derived.Test.YtajoljoegbeiiaaGreatDoorLkL2
namespace Go.Proofs.YtajoljoegbeiiaaGreatDoor
set_option linter.all false
set_option maxRecDepth 1000000
namespace Lk
open Ex Go.RowKit
theorem g15 : (roundsK (F0) (inner c1_11) cx1 2 l1_22.st (litB l1_23 cx1.sz) && (seqsK (F18) cx20 7 c20_0 l20_0.st (litB l20_1 cx20.sz) && (F2 (.code c4_3) cx4 l4_3.st K4 && F14 (.code c12_3) cx12 l12_3.st K12))) = true := by kernel_rfl
theorem q33 : roundsK (F0) (inner c1_11) cx1 2 l1_22.st (litB l1_23 cx1.sz) = true := andL g15
theorem q161 : seqsK (F18) cx20 7 c20_0 l20_0.st (litB l20_1 cx20.sz) = true := andL (andR g15)
theorem q77 : F2 (.code c4_3) cx4 l4_3.st K4 = true := andL (andR (andR g15))
theorem q141 : F14 (.code c12_3) cx12 l12_3.st K12 = true := (andR (andR (andR g15)))
theorem g34 : (roundsK (F27) (inner c29_7) cx29 1 l29_5.st (litB l29_6 cx29.sz) && (roundsK (F12) (inner c16_3) cx16 6 l16_2.st (litB l16_3 cx16.sz) && (seqsK (F27) cx29 1 c29_3 l29_3.st (litB l29_4 cx29.sz) && F7 (.code c2_16) cx2 l2_8.st (cutK l2_9 cx2.sz)))) = true := by kernel_rfl
theorem q211 : roundsK (F27) (inner c29_7) cx29 1 l29_5.st (litB l29_6 cx29.sz) = true := andL g34
theorem q128 : roundsK (F12) (inner c16_3) cx16 6 l16_2.st (litB l16_3 cx16.sz) = true := andL (andR g34)
theorem q209 : seqsK (F27) cx29 1 c29_3 l29_3.st (litB l29_4 cx29.sz) = true := andL (andR (andR g34))
theorem q96 : F7 (.code c2_16) cx2 l2_8.st (cutK l2_9 cx2.sz) = true := (andR (andR (andR g34)))
theorem g36 : (roundsK (F0) (inner c1_21) cx1 2 l1_42.st (litB l1_43 cx1.sz) && (roundsK (F0) (inner c1_11) cx1 2 l1_12.st (litB l1_13 cx1.sz) && (seqsK (F7) cx2 2 c2_22 l2_11.st (litB l2_12 cx2.sz) && (seqsK (F0) cx1 1 c1_19 l1_28.st (litB l1_29 cx1.sz) && F29 (.code c2_59) cx2 l2_33.st (cutK l2_34 cx2.sz))))) = true := by kernel_rfl
theorem q53 : roundsK (F0) (inner c1_21) cx1 2 l1_42.st (litB l1_43 cx1.sz) = true := andL g36
theorem q23 : roundsK (F0) (inner c1_11) cx1 2 l1_12.st (litB l1_13 cx1.sz) = true := andL (andR g36)
theorem q99 : seqsK (F7) cx2 2 c2_22 l2_11.st (litB l2_12 cx2.sz) = true := andL (andR (andR g36))
theorem q39 : seqsK (F0) cx1 1 c1_19 l1_28.st (litB l1_29 cx1.sz) = true := andL (andR (andR (andR g36)))
theorem q219 : F29 (.code c2_59) cx2 l2_33.st (cutK l2_34 cx2.sz) = true := (andR (andR (andR (andR g36))))
theorem g25 : (seqsK (F15) cx19 2 c19_0 l19_0.st (litB l19_1 cx19.sz) && (seqsK (F16) cx18 5 c18_2 l18_2.st (litB l18_3 cx18.sz) && (seqsK (F7) cx10 4 c10_0 l10_0.st (litB l10_1 cx10.sz) && (seqsK (F20) cx20 1 c20_2 l20_2.st (litB l20_3 cx20.sz) && F24 (.code c2_51) cx2 l2_28.st (cutK l2_29 cx2.sz))))) = true := by kernel_rfl
theorem q148 : seqsK (F15) cx19 2 c19_0 l19_0.st (litB l19_1 cx19.sz) = true := andL g25
theorem q152 : seqsK (F16) cx18 5 c18_2 l18_2.st (litB l18_3 cx18.sz) = true := andL (andR g25)
theorem q101 : seqsK (F7) cx10 4 c10_0 l10_0.st (litB l10_1 cx10.sz) = true := andL (andR (andR g25))
theorem q170 : seqsK (F20) cx20 1 c20_2 l20_2.st (litB l20_3 cx20.sz) = true := andL (andR (andR (andR g25)))
theorem q187 : F24 (.code c2_51) cx2 l2_28.st (cutK l2_29 cx2.sz) = true := (andR (andR (andR (andR g25))))
end Lk
end Go.Proofs.YtajoljoegbeiiaaGreatDoor
