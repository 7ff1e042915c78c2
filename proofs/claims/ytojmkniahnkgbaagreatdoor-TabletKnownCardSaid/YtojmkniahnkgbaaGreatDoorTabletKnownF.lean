/-
  TabletKnown: the closed facts of the row and of the card, each by itself (in one declaration they take more memory than a process has).
-/
import Derived.Test.YtojmkniahnkgbaaGreatDoorRows
import Derived.JoinedCond
import Derived.SevenTiedAt
import Derived.WalkKit
namespace Go.Proofs.YtojmkniahnkgbaaGreatDoor
open Go.ChangeShapes Go.WideShapes Go.ChangeAt Go.RowKit
set_option linter.all false
set_option maxRecDepth 1000000
set_option maxHeartbeats 40000000
theorem fJoined : joinedFacts Tryz.pinned.checked.prog 3 Tryz.f3 (OpenSpec.ofChange Rows.tabletKnownSpec).bare Rows.tabletKnownRow = true := by
  unfold joinedFacts
  simp only [Bool.and_eq_true]
  repeat' apply And.intro
  all_goals as_aux_lemma => kernel_rfl
theorem fName : Tryz.pinned.checked.prog.funcNamed "acreage/acreagelaw18.TabletKnown" = some 3 := by kernel_rfl
theorem fWf : Rows.tabletKnownRow.wfByText (OpenSpec.ofChange Rows.tabletKnownSpec) = true := by kernel_rfl
theorem fMain : Tryz.pinned.checked.prog.mainIs = some (true, "92ac4a6a08357262cc0894e55b916acae1afee5a9c7656e13fb045b5f267e021".toList) := by kernel_rfl
theorem fGoes : false = Rows.tabletKnownRow.goesBy Tryz.pinned.checked.prog := by kernel_rfl
theorem fLooks : true = Tryz.pinned.checked.prog.looks [] := by kernel_rfl
end Go.Proofs.YtojmkniahnkgbaaGreatDoor
