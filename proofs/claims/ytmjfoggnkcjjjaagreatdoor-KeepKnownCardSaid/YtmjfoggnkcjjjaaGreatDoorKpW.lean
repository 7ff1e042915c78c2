/-
  Keep: works() run by the executor; the prims of KeepKnown: drops(), works() are true.
-/
import Derived.Test.YtmjfoggnkcjjjaaGreatDoorKpP
import Derived.Test.YtmjfoggnkcjjjaaGreatDoorKdZ
namespace Go.Proofs.YtmjfoggnkcjjjaaGreatDoor
set_option linter.all false
set_option maxRecDepth 100000
open Ex Go.RowKit
theorem works_run : enterO Tryz.prog (run Tryz.prog primsS 1000000) [] (hp0 []) 1000 (valK (.bool true)) Tryz.prog.funcs[17]? = true := by kernel_rfl
theorem met_works : Ex.Met Tryz.prog 17 (valP (.bool true)) := met_val noNum primsS_ok mixed Tryz.func17 rfl (bool_still true) works_run
noncomputable def primsK : Prim := primAnd 14 (valP (.bool true)) (primAnd 17 (valP (.bool true)) primsS)
theorem primsK_ok : PrimOk Tryz.prog primsK := primOk_and met_Kd (primOk_and met_works primsS_ok)
end Go.Proofs.YtmjfoggnkcjjjaaGreatDoor
