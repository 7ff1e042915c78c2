/-
  Functions that the executor meets by contracts: those of KpP (seal.Sum, Sorted, the table of sums), and the comparison of two texts.
-/
import Derived.Test.YtojmkniahnkgbaaGreatDoorKpP
import Derived.Test.YtojmkniahnkgbaaGreatDoorExZ
namespace Go.Proofs.YtojmkniahnkgbaaGreatDoor
set_option maxRecDepth 100000
open Ex
theorem met_cmpS : Ex.Met Tryz.prog 305 cmpP := met_cmp Tryz.func305 (by kernel_rfl) (by kernel_rfl) (by kernel_rfl) (by kernel_rfl)
noncomputable def primsT : Prim := primAnd 305 cmpP primsS
theorem primsT_ok : PrimOk Tryz.prog primsT := primOk_and met_cmpS primsS_ok
end Go.Proofs.YtojmkniahnkgbaaGreatDoor
