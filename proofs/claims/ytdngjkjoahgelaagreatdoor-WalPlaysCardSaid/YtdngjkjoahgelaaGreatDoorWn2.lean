/-
  WalAny's own walk. (Under way.)
-/
import Derived.Test.YtdngjkjoahgelaaGreatDoorWn1
import Derived.Test.YtdngjkjoahgelaaGreatDoorWalK
import Derived.Test.YtdngjkjoahgelaaGreatDoorRows
import Derived.Lib.LaidTab
import Derived.Lib.SmallJoins
namespace Go.Proofs.YtdngjkjoahgelaaGreatDoor
set_option linter.all false
set_option maxRecDepth 100000
set_option maxHeartbeats 4000000
open Go.RowKit
theorem gPow : Tryz.prog.globalNamed "internal/strconv.uint64pow10" = some 2 := by kernel_rfl
theorem gPowT : (Tryz.prog.globals[2]?).map (·.type) = some 216 := by kernel_rfl
theorem cellsPow : Tryz.prog.cellsOf 216 = 20 := by kernel_rfl
theorem cellsU64 : Tryz.prog.cellsOf 35 = 1 := by kernel_rfl
theorem env_of {W : World} {r1 : List (String × DataW Unit)} (hP : laidMet Tryz.prog (("internal/strconv.uint64pow10", Rows.laid_internal_strconv_uint64pow10) :: r1) W) : Env W :=
  ⟨Lib.tabIs_of_head (k := .u64) (zs := Lib.pow10Tab) gPow gPowT Tryz.underlying216 Tryz.underlying35 cellsU64 cellsPow hP⟩
end Go.Proofs.YtdngjkjoahgelaaGreatDoor
