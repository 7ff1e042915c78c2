/-
  acreage/acreagelaw22.KeepKnown: the pieces joined.
-/
import Derived.Test.YtmjfoggnkcjjjaaGreatDoorKk1
import Derived.Test.YtmjfoggnkcjjjaaGreatDoorKk2
import Derived.Test.YtmjfoggnkcjjjaaGreatDoorKk3
import Derived.Test.YtmjfoggnkcjjjaaGreatDoorKk4
import Derived.Test.YtmjfoggnkcjjjaaGreatDoorKk5
import Derived.Test.YtmjfoggnkcjjjaaGreatDoorKk6
import Derived.Test.YtmjfoggnkcjjjaaGreatDoorKk7
namespace Go.Proofs.YtmjfoggnkcjjjaaGreatDoor
set_option linter.all false
set_option maxRecDepth 1000000
namespace Kk
open Ex Go.RowKit
theorem a6 : All Tryz.prog (.code c6) cx l5.st K0 = true := all_run noNum primsK_ok mixed p6
theorem a5 : All Tryz.prog (.code c5) cx l4.st K0 = true := seqs_cut noNum primsK_ok mixed (l := l5) 4 c5 l4.st (by kernel_rfl) p5 a6
theorem a4 : All Tryz.prog (.code c4) cx l3.st K0 = true := seqs_cut noNum primsK_ok mixed (l := l4) 4 c4 l3.st (by kernel_rfl) p4 a5
theorem a3 : All Tryz.prog (.code c3) cx l2.st K0 = true := seqs_cut noNum primsK_ok mixed (l := l3) 2 c3 l2.st (by kernel_rfl) p3 a4
theorem a2 : All Tryz.prog (.code c2) cx l1.st K0 = true := seqs_cut noNum primsK_ok mixed (l := l2) 4 c2 l1.st (by kernel_rfl) p2 a3
theorem a1 : All Tryz.prog (.code c1) cx l0.st K0 = true := seqs_cut noNum primsK_ok mixed (l := l1) 4 c1 l0.st (by kernel_rfl) p1 a2
theorem a0 : All Tryz.prog (.code c0) cx ⟨.nil, [], .nil, 1000⟩ K0 = true := seqs_cut noNum primsK_ok mixed (l := l0) 6 c0 ⟨.nil, [], .nil, 1000⟩ (by kernel_rfl) p0 a1
theorem body : Tryz.f3.body = some c0 := by kernel_rfl
end Kk
open Ex Go.RowKit
theorem known_walk (W : World) : Calls Tryz.prog 3 #[] W fun e W' => e = .returned (.bool true) ∧ Below W.heap.size W W' :=
  closed_all Tryz.func3 Kk.body Kk.a0 fun r m' w' v hk _ hv hE => by
    rw [eqI_eq hk] at hv
    cases hv
    exact ⟨rfl, hE.below⟩
end Go.Proofs.YtmjfoggnkcjjjaaGreatDoor
