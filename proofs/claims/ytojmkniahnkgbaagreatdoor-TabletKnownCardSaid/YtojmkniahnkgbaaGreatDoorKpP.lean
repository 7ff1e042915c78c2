/-
  Functions that the executor meets by contracts: those of WalP, and seal.Sum.
-/
import Derived.Test.YtojmkniahnkgbaaGreatDoorWalP
import Derived.Test.YtojmkniahnkgbaaGreatDoorExY
import Derived.Test.YtojmkniahnkgbaaGreatDoorExW
namespace Go.Proofs.YtojmkniahnkgbaaGreatDoor
set_option maxRecDepth 100000
open Ex
noncomputable def primsS : Prim := primAnd 236 sumP prims
theorem primsS_ok : PrimOk Tryz.prog primsS := primOk_and (met_sum noNum) prims_ok
end Go.Proofs.YtojmkniahnkgbaaGreatDoor
