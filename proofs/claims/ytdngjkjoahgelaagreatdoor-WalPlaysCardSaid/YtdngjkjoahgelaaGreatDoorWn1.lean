/-
  The laws of logs: cut; WalAny's disk in plain Lean.
-/
import Derived.Test.YtdngjkjoahgelaaGreatDoorWaA
namespace Go.Proofs.YtdngjkjoahgelaaGreatDoor
set_option linter.all false
set_option maxRecDepth 100000
set_option maxHeartbeats 1000000
open Go.RowKit
section
variable {B w w' : World} {L : List HP}
/-- 'cut'. -/
theorem pcut (s : ByteArray) (k : Nat) (hk : k ≤ 1000000) : Calls Tryz.prog 11 #[.string s, .int .i64 (k : Int)] w fun y w' => y = .returned (.string (bA (s.data.toList.take k))) ∧ w' = w := by
  have ex : s.extract 0 (min s.size k) = bA (s.data.toList.take k) := by
    apply ByteArray.ext
    rw [ByteArray.data_extract]
    apply Array.ext'
    have e1 : (s.data.extract 0 (min s.size k)).toList = s.data.toList.take (min s.size k) := by rw [Array.toList_extract]; simp
    rw [e1]
    show _ = s.data.toList.take k
    have hsz : s.data.toList.length = s.size := Array.length_toList
    by_cases h : s.size ≤ k
    · rw [Nat.min_eq_left h, List.take_of_length_le (by omega), List.take_of_length_le (by omega)]
    · rw [Nat.min_eq_right (by omega)]
  have b0 : (k : Int) ≤ 1000000 := by omega
  go_enter Tryz.func11, Tryz.ntmps11
  go_wp2_with fail
  go_ret
  refine ⟨?_, rfl⟩
  rw [show (min (s.size : Int) (k : Int)).toNat = min s.size k by omega, ex]
  rfl
end
section
def nmA : Bt := [119, 48, 48, 48, 48, 48, 48, 48, 48, 48, 48, 48, 48, 48, 48, 48, 53]
def nmV : Bt := [118]
def nmT : Bt := [119, 116, 109, 112]
def nmX : Bt := [119, 48, 48, 48, 48, 48, 48, 48, 48, 48, 48, 48, 48, 48, 48, 48, 97]
def nmZ : Bt := [119, 49, 48, 48, 48, 48, 48, 48, 48, 48, 48, 48, 48, 48, 48, 48, 49]
def anyR (b : Bt) : Fls := [⟨nmV, [109, 105, 110, 101], 0⟩, ⟨nmA, b, 0⟩, ⟨nmX, [121], 0⟩, ⟨nmZ, [122], 0⟩]
/-- What reads give of WalAny's disk behind Open. -/
structure AnyR (D : Fls) (b : Bt) : Prop where
  a : readD D nmA = (b.take (goodB (scanB b)), 0)
  v : readD D nmV = ([109, 105, 110, 101], 0)
  x : readD D nmX = ([121], 0)
  t : readD D nmT = ([], 5)
  z : readD D nmZ = ([122], 0)
end
end Go.Proofs.YtdngjkjoahgelaaGreatDoor
