/-
  LsmKnown: the library's tables that the run reads lie in the world that the row speaks of.
-/
import Derived.Test.YtajoljoegbeiiaaGreatDoorLkZ
import Derived.Test.YtajoljoegbeiiaaGreatDoorRows
import Derived.Lib.LaidTab
import Derived.Lib.ItoaNum
import Derived.Stop.LaidErr
namespace Go.Proofs.YtajoljoegbeiiaaGreatDoor
set_option linter.all false
set_option maxRecDepth 100000
open Ex Go.RowKit
def dbTab : List Int := [0, 1, 56, 2, 57, 49, 28, 3, 61, 58, 42, 50, 38, 29, 17, 4, 62, 47, 59, 36, 45, 43, 51, 22, 53, 39, 33, 30, 24, 18, 12, 5, 63, 55, 48, 27, 60, 41, 37, 16, 46, 35, 44, 21, 52, 32, 23, 11, 54, 26, 40, 15, 34, 20, 31, 10, 25, 14, 19, 9, 13, 8, 7, 6]
def pwTab : List Int := [1, 10, 100, 1000, 10000, 100000, 1000000, 10000000, 100000000, 1000000000, 10000000000, 100000000000, 1000000000000, 10000000000000, 100000000000000, 1000000000000000, 10000000000000000, 100000000000000000, 1000000000000000000, 10000000000000000000]
theorem gDb : Tryz.prog.globalNamed "math/bits.deBruijn64tab" = some 2 := by kernel_rfl
theorem gDbT : (Tryz.prog.globals[2]?).map (·.type) = some 286 := by kernel_rfl
theorem cellsDb : Tryz.prog.cellsOf 286 = 64 := by kernel_rfl
theorem cellsU8 : Tryz.prog.cellsOf 5 = 1 := by kernel_rfl
theorem gSize : Nat.blt 2 Tryz.prog.globals.size = true := by kernel_rfl
theorem gRow : ((((begin Tryz.prog (fun _ _ => 0) default).world.heap[2]?).bind Obj.row?).map (·.2)) = some 286 := by kernel_rfl
theorem gPw : Tryz.prog.globalNamed "internal/strconv.uint64pow10" = some 5 := by kernel_rfl
theorem gPwT : (Tryz.prog.globals[5]?).map (·.type) = some 341 := by kernel_rfl
theorem cellsPw : Tryz.prog.cellsOf 341 = 20 := by kernel_rfl
theorem cellsU64 : Tryz.prog.cellsOf 28 = 1 := by kernel_rfl
theorem pSize : Nat.blt 5 Tryz.prog.globals.size = true := by kernel_rfl
theorem pRow : ((((begin Tryz.prog (fun _ _ => 0) default).world.heap[5]?).bind Obj.row?).map (·.2)) = some 341 := by kernel_rfl
theorem laid_ok {W : World} {r1 : List (String × DataW Unit)} (hP : laidMet Tryz.prog (("math/bits.deBruijn64tab", Rows.laid_math_bits_deBruijn64tab) :: ("internal/strconv.uint64pow10", Rows.laid_internal_strconv_uint64pow10) :: r1) W) (hsh : W.ShapedOpen Tryz.prog) : Laid Lk.GL W := by
  have hT : Lib.TabIs Tryz.prog W "math/bits.deBruijn64tab" .u8 dbTab := Lib.tabIs_of_head (k := .u8) (zs := dbTab) gDb gDbT Tryz.underlying286 Tryz.underlying5 cellsU8 cellsDb hP
  have hT2 : Lib.TabIs Tryz.prog W "internal/strconv.uint64pow10" .u64 pwTab := Lib.tabIs_of_head (k := .u64) (zs := pwTab) gPw gPwT Tryz.underlying341 Tryz.underlying28 cellsU64 cellsPw hP.tail
  have h := laid_tab hT gDb (shaped_at hsh (Nat.le_of_ble_eq_true gSize) gRow)
  have h2 := laid_tab hT2 gPw (shaped_at hsh (Nat.le_of_ble_eq_true pSize) pRow)
  intro g hg
  have hg : g ∈ [(⟨2, 286, dbTab.map (AV.int .u8)⟩ : Gl), ⟨5, 341, pwTab.map (AV.int .u64)⟩] := hg
  rcases List.mem_cons.1 hg with hg | hg
  · subst hg; exact ⟨by decide, h⟩
  · have hg := List.mem_singleton.1 hg
    subst hg; exact ⟨by decide, h2⟩
end Go.Proofs.YtajoljoegbeiiaaGreatDoor
