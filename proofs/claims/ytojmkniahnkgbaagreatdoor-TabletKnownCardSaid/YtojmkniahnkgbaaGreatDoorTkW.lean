/-
  TabletKnown: the library's table that the run reads lies in the world that the row speaks of.
-/
import Derived.Test.YtojmkniahnkgbaaGreatDoorTkZ
import Derived.Test.YtojmkniahnkgbaaGreatDoorRows
import Derived.Lib.LaidTab
import Derived.Stop.LaidErr
namespace Go.Proofs.YtojmkniahnkgbaaGreatDoor
set_option linter.all false
set_option maxRecDepth 100000
open Ex Go.RowKit
def dbTab : List Int := [0, 1, 56, 2, 57, 49, 28, 3, 61, 58, 42, 50, 38, 29, 17, 4, 62, 47, 59, 36, 45, 43, 51, 22, 53, 39, 33, 30, 24, 18, 12, 5, 63, 55, 48, 27, 60, 41, 37, 16, 46, 35, 44, 21, 52, 32, 23, 11, 54, 26, 40, 15, 34, 20, 31, 10, 25, 14, 19, 9, 13, 8, 7, 6]
theorem gDb : Tryz.prog.globalNamed "math/bits.deBruijn64tab" = some 2 := by kernel_rfl
theorem gDbT : (Tryz.prog.globals[2]?).map (·.type) = some 405 := by kernel_rfl
theorem cellsDb : Tryz.prog.cellsOf 405 = 64 := by kernel_rfl
theorem cellsU8 : Tryz.prog.cellsOf 5 = 1 := by kernel_rfl
theorem gSize : Nat.blt 2 Tryz.prog.globals.size = true := by kernel_rfl
theorem gRow : ((((begin Tryz.prog (fun _ _ => 0) default).world.heap[2]?).bind Obj.row?).map (·.2)) = some 405 := by kernel_rfl
theorem laid_ok {W : World} {r1 : List (String × DataW Unit)} (hP : laidMet Tryz.prog (("math/bits.deBruijn64tab", Rows.laid_math_bits_deBruijn64tab) :: r1) W) (hsh : W.ShapedOpen Tryz.prog) : Laid Tk.GL W := by
  have hT : Lib.TabIs Tryz.prog W "math/bits.deBruijn64tab" .u8 dbTab := Lib.tabIs_of_head (k := .u8) (zs := dbTab) gDb gDbT Tryz.underlying405 Tryz.underlying5 cellsU8 cellsDb hP
  have h := laid_tab hT gDb (shaped_at hsh (Nat.le_of_ble_eq_true gSize) gRow)
  intro g hg
  have hg : g = ⟨2, 405, dbTab.map (AV.int .u8)⟩ := List.mem_singleton.1 (show g ∈ [(⟨2, 405, dbTab.map (AV.int .u8)⟩ : Gl)] from hg)
  subst hg
  exact ⟨by decide, h⟩
end Go.Proofs.YtojmkniahnkgbaaGreatDoor
