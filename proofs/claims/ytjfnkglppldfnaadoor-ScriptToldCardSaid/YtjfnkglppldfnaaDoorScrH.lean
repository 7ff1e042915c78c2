/-
  Script: what the row's condition gives on errors.errorType.
-/
import Derived.Test.YtjfnkglppldfnaaDoorRows
import Derived.Test.YtjfnkglppldfnaaDoorScrE
import Derived.LaidHandle
namespace Go.Proofs.YtjfnkglppldfnaaDoor
open Go.RowKit
theorem gEt : Tryd.prog.globalNamed "errors.errorType" = some 0 := by kernel_rfl
theorem rtC : (Tryd.prog.cutTypes.find? (·.1 == "internal/reflectlite.rtype")).map (·.2) = some 89 := by kernel_rfl
theorem oneRow : ((List.range 172).filter fun t => Tryd.prog.rowNamed t [101, 114, 114, 111, 114]) = [32] := by kernel_rfl
theorem nTypes : Tryd.prog.types.size = 172 := by kernel_rfl
theorem handle_of {W : World} {l : List (String × DataW Unit)} (h : handlesMet Tryd.prog (("errors.errorType", Rows.laid_errors_errorType) :: l) W) :
    W.cell? ⟨0, 0, none⟩ = some (.iface 89 (.agg #[.pointer (some ⟨9, 32, none⟩)])) := by
  obtain ⟨name, u, ty, e1, e2, e3, e4, e5⟩ := h _ (List.mem_cons_self ..)
  have en : name = [101, 114, 114, 111, 114] := (Option.some.inj e1).symm
  subst en
  obtain rfl := Option.some.inj (rtC.symm.trans e2)
  have hm : ty ∈ (List.range 172).filter fun t => Tryd.prog.rowNamed t [101, 114, 114, 111, 114] := List.mem_filter.2 ⟨List.mem_range.2 (by rw [← nTypes]; exact e3), e4⟩
  rw [oneRow] at hm
  obtain rfl := List.mem_singleton.1 hm
  have hh : typeHandle Tryd.prog 32 = .pointer (some ⟨9, 32, none⟩) := by kernel_rfl
  rw [hh] at e5
  simpa using World.var?_cell gEt e5 0
end Go.Proofs.YtjfnkglppldfnaaDoor
