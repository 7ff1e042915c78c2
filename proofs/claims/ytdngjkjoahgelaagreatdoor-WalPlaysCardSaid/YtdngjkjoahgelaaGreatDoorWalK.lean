/-
  The law WalKnown, run by the executor: whatever the tape says, it returns true, and nothing that lay there has turned.
-/
import Derived.Test.YtdngjkjoahgelaaGreatDoorWalP
namespace Go.Proofs.YtdngjkjoahgelaaGreatDoor
set_option linter.all false
set_option maxRecDepth 100000
open Ex Go.RowKit
theorem known_run : enterO Tryz.prog (run Tryz.prog prims 1000000) [] (hp0 []) 1000 (valK (.bool true)) Tryz.prog.funcs[16]? = true := by kernel_rfl
theorem known_walk (W : World) : Calls Tryz.prog 16 #[] W fun e W' => e = .returned (.bool true) ∧ Below W.heap.size W W' :=
  closed noNum prims_ok mixed known_run (laid_nil W) fun r m' w' v hk _ hv hE => by
    rw [eqI_eq hk] at hv
    cases hv
    exact ⟨rfl, hE.below⟩
end Go.Proofs.YtdngjkjoahgelaaGreatDoor
