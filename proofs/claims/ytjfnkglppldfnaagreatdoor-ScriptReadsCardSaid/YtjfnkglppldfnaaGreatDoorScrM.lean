/-
  Script: the document's MaySetup.
-/
import Derived.Test.YtjfnkglppldfnaaGreatDoorProg
import Derived.Test.YtjfnkglppldfnaaGreatDoorSlRow
import Derived.Test.YtjfnkglppldfnaaGreatDoorScrS
namespace Go.Proofs.YtjfnkglppldfnaaGreatDoor
open Go.RowKit
section
variable {B w : World} {L : List HP}
set_option maxHeartbeats 16000000 in
set_option maxRecDepth 100000 in
theorem rmay (a b c d e f g i j : Int) (h : Sat B L w) :
    Calls Tryz.prog 63 #[.agg #[.int .i64 a, .int .i64 b, .int .i64 c, .int .i64 d, .int .i64 e, .int .i64 f, .int .i64 g, .int .i64 i, .int .i64 j]] w fun y w' =>
      y = .returned (.bool (mayL [a, b, c, d, e, f, g, i, j])) ∧ Sat B L w' := by
  go_enter Tryz.func63, Tryz.ntmps63
  go_wp2_with fail
  all_goals
    go_ret
    refine ⟨?_, (h.alloc _).drop⟩
    congr 2
    simp [mayL, *]
    try omega
end
end Go.Proofs.YtjfnkglppldfnaaGreatDoor
