/-
  Script: what the row's condition gives on errors.errorType.
-/
import Derived.Test.YtjfnkglppldfnaaGreatDoorRows
import Derived.Test.YtjfnkglppldfnaaGreatDoorScrE
import Derived.LaidHandle
namespace Go.Proofs.YtjfnkglppldfnaaGreatDoor
open Go.RowKit
theorem gEt : Tryz.prog.globalNamed "errors.errorType" = some 0 := by kernel_rfl
theorem rtC : (Tryz.prog.cutTypes.find? (·.1 == "internal/reflectlite.rtype")).map (·.2) = some 122 := by kernel_rfl
theorem oneRow : ((List.range 259).filter fun t => Tryz.prog.rowNamed t [101, 114, 114, 111, 114]) = [26] := by kernel_rfl
theorem nTypes : Tryz.prog.types.size = 259 := by kernel_rfl
theorem handle_of {W : World} {l : List (String × DataW Unit)} (h : handlesMet Tryz.prog (("errors.errorType", Rows.laid_errors_errorType) :: l) W) :
    W.cell? ⟨0, 0, none⟩ = some (.iface 122 (.agg #[.pointer (some ⟨12, 26, none⟩)])) := by
  obtain ⟨name, u, ty, e1, e2, e3, e4, e5⟩ := h _ (List.mem_cons_self ..)
  have en : name = [101, 114, 114, 111, 114] := (Option.some.inj e1).symm
  subst en
  obtain rfl := Option.some.inj (rtC.symm.trans e2)
  have hm : ty ∈ (List.range 259).filter fun t => Tryz.prog.rowNamed t [101, 114, 114, 111, 114] := List.mem_filter.2 ⟨List.mem_range.2 (by rw [← nTypes]; exact e3), e4⟩
  rw [oneRow] at hm
  obtain rfl := List.mem_singleton.1 hm
  have hh : typeHandle Tryz.prog 26 = .pointer (some ⟨12, 26, none⟩) := by kernel_rfl
  rw [hh] at e5
  simpa using World.var?_cell gEt e5 0
end Go.Proofs.YtjfnkglppldfnaaGreatDoor
