/-
  Functions that the executor meets by contracts: those of WalP, and seal.Sum.
-/
import Derived.Test.YtmjfoggnkcjjjaaGreatDoorWalP
import Derived.Test.YtmjfoggnkcjjjaaGreatDoorExY
import Derived.Test.YtmjfoggnkcjjjaaGreatDoorExXH
namespace Go.Proofs.YtmjfoggnkcjjjaaGreatDoor
set_option maxRecDepth 100000
open Ex
noncomputable def primsS : Prim := primAnd 52 sumP prims
theorem primsS_ok : PrimOk Tryz.prog primsS := primOk_and (met_sum noNum) prims_ok
end Go.Proofs.YtmjfoggnkcjjjaaGreatDoor
