/-
  LsmKnown: the closed facts of the row and of the card, each by itself (in one declaration they take more memory than a process has).
-/
import Derived.Test.YtajoljoegbeiiaaGreatDoorRows
import Derived.JoinedCond
import Derived.SevenTiedAt
import Derived.WalkKit
namespace Go.Proofs.YtajoljoegbeiiaaGreatDoor
open Go.ChangeShapes Go.WideShapes Go.ChangeAt Go.RowKit
set_option linter.all false
set_option maxRecDepth 1000000
set_option maxHeartbeats 40000000
theorem fJoined : joinedFacts Tryz.pinned.checked.prog 3 Tryz.f3 (OpenSpec.ofChange Rows.lsmKnownSpec).bare Rows.lsmKnownRow = true := by
  unfold joinedFacts
  simp only [Bool.and_eq_true]
  repeat' apply And.intro
  all_goals as_aux_lemma => kernel_rfl
theorem fName : Tryz.pinned.checked.prog.funcNamed "acreage/acreagelaw14.LsmKnown" = some 3 := by kernel_rfl
theorem fWf : Rows.lsmKnownRow.wfByText (OpenSpec.ofChange Rows.lsmKnownSpec) = true := by kernel_rfl
theorem fMain : Tryz.pinned.checked.prog.mainIs = some (true, "2847a83ffcb7aaf0a2de7d488582363b26ccc884a29982683edbfcf11f39248e".toList) := by kernel_rfl
theorem fGoes : false = Rows.lsmKnownRow.goesBy Tryz.pinned.checked.prog := by kernel_rfl
theorem fLooks : true = Tryz.pinned.checked.prog.looks [] := by kernel_rfl
end Go.Proofs.YtajoljoegbeiiaaGreatDoor
