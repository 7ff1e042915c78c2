/-
  acreage/acreagelaw22.drops: the pieces joined.
-/
import Derived.Test.YtmjfoggnkcjjjaaGreatDoorKd1
import Derived.Test.YtmjfoggnkcjjjaaGreatDoorKd2
import Derived.Test.YtmjfoggnkcjjjaaGreatDoorKd3
import Derived.Test.YtmjfoggnkcjjjaaGreatDoorKd4
import Derived.Test.YtmjfoggnkcjjjaaGreatDoorKd5
import Derived.Test.YtmjfoggnkcjjjaaGreatDoorKd6
import Derived.Test.YtmjfoggnkcjjjaaGreatDoorKd7
import Derived.Test.YtmjfoggnkcjjjaaGreatDoorKd8
import Derived.Test.YtmjfoggnkcjjjaaGreatDoorKd9
import Derived.Test.YtmjfoggnkcjjjaaGreatDoorKd10
import Derived.Test.YtmjfoggnkcjjjaaGreatDoorKd11
import Derived.Test.YtmjfoggnkcjjjaaGreatDoorKd12
import Derived.Test.YtmjfoggnkcjjjaaGreatDoorKd13
import Derived.Test.YtmjfoggnkcjjjaaGreatDoorKd14
import Derived.Test.YtmjfoggnkcjjjaaGreatDoorKd15
namespace Go.Proofs.YtmjfoggnkcjjjaaGreatDoor
set_option linter.all false
set_option maxRecDepth 1000000
namespace Kd
open Ex Go.RowKit
theorem a16 : All Tryz.prog (.code c5) cx l13.st K0 = true := all_run noNum primsS_ok mixed p14
theorem a15 : All Tryz.prog (.code c4) cx l12.st (blockX 0 (thenX (All Tryz.prog) (rgt c1) cx K0)) = true := loop_end noNum primsS_ok mixed p13 (then_lit a16)
theorem a14 : All Tryz.prog (.code c4) cx l11.st (blockX 0 (thenX (All Tryz.prog) (rgt c1) cx K0)) = true := loop_cut noNum primsS_ok mixed (by kernel_rfl) a15 4 l11.st p12
theorem a13 : All Tryz.prog (.code c4) cx l10.st (blockX 0 (thenX (All Tryz.prog) (rgt c1) cx K0)) = true := loop_cut noNum primsS_ok mixed (by kernel_rfl) a14 4 l10.st p11
theorem a12 : All Tryz.prog (.code c4) cx l9.st (blockX 0 (thenX (All Tryz.prog) (rgt c1) cx K0)) = true := loop_cut noNum primsS_ok mixed (by kernel_rfl) a13 4 l9.st p10
theorem a11 : All Tryz.prog (.code c4) cx l8.st (blockX 0 (thenX (All Tryz.prog) (rgt c1) cx K0)) = true := loop_cut noNum primsS_ok mixed (by kernel_rfl) a12 4 l8.st p9
theorem a10 : All Tryz.prog (.code c4) cx l7.st (blockX 0 (thenX (All Tryz.prog) (rgt c1) cx K0)) = true := loop_cut noNum primsS_ok mixed (by kernel_rfl) a11 4 l7.st p8
theorem a9 : All Tryz.prog (.code c4) cx l6.st (blockX 0 (thenX (All Tryz.prog) (rgt c1) cx K0)) = true := loop_cut noNum primsS_ok mixed (by kernel_rfl) a10 5 l6.st p7
theorem a8 : All Tryz.prog (.code c4) cx l5.st (blockX 0 (thenX (All Tryz.prog) (rgt c1) cx K0)) = true := loop_cut noNum primsS_ok mixed (by kernel_rfl) a9 5 l5.st p6
theorem a7 : All Tryz.prog (.code c4) cx l4.st (blockX 0 (thenX (All Tryz.prog) (rgt c1) cx K0)) = true := loop_cut noNum primsS_ok mixed (by kernel_rfl) a8 5 l4.st p5
theorem a6 : All Tryz.prog (.code c4) cx l3.st (blockX 0 (thenX (All Tryz.prog) (rgt c1) cx K0)) = true := loop_cut noNum primsS_ok mixed (by kernel_rfl) a7 8 l3.st p4
theorem a5 : All Tryz.prog (.code c4) cx l2.st (blockX 0 (thenX (All Tryz.prog) (rgt c1) cx K0)) = true := loop_cut noNum primsS_ok mixed (by kernel_rfl) a6 8 l2.st p3
theorem a4 : All Tryz.prog (.code c4) cx l1.st (blockX 0 (thenX (All Tryz.prog) (rgt c1) cx K0)) = true := loop_cut noNum primsS_ok mixed (by kernel_rfl) a5 8 l1.st p2
theorem a3 : All Tryz.prog (.code c3) cx l1.st (thenX (All Tryz.prog) (rgt c1) cx K0) = true := block_in (by kernel_rfl) a4
theorem a2 : All Tryz.prog (.code c2) cx l0.st (thenX (All Tryz.prog) (rgt c1) cx K0) = true := seqs_cut noNum primsS_ok mixed (l := l1) 1 c2 l0.st (by kernel_rfl) p1 a3
theorem a1 : All Tryz.prog (.code c1) cx l0.st K0 = true := seq_left (by kernel_rfl) a2
theorem a0 : All Tryz.prog (.code c0) cx ⟨.nil, [], .nil, 1000⟩ K0 = true := seqs_cut noNum primsS_ok mixed (l := l0) 4 c0 ⟨.nil, [], .nil, 1000⟩ (by kernel_rfl) p0 a1
theorem body : Tryz.f14.body = some c0 := by kernel_rfl
end Kd
open Ex
theorem met_Kd : Ex.Met Tryz.prog 14 (valP (.bool true)) := met_val_all noNum Tryz.func14 Kd.body (bool_still true) (by first | exact Kd.a0 | (show All _ _ ⟨Tryz.ntmps14, none⟩ _ _ = true; exact Kd.a0))
end Go.Proofs.YtmjfoggnkcjjjaaGreatDoor
