/-
  The laws of logs: cut; WalAny's disk in plain Lean.
-/
import Derived.Test.YtdngjkjoahgelaaGreatDoorWaA
namespace Go.Proofs.YtdngjkjoahgelaaGreatDoor
set_option linter.all false
set_option maxRecDepth 100000
set_option maxHeartbeats 1000000
open Go.RowKit
section
variable {B w w' : World} {L : List HP}
/-- 'cut'. -/
theorem pcut (s : ByteArray) (k : Nat) (hk : k ≤ 1000000) : Calls Tryz.prog 11 #[.string s, .int .i64 (k : Int)] w fun y w' => y = .returned (.string (bA (s.data.toList.take k))) ∧ w' = w := by
  have ex : s.extract 0 (min s.size k) = bA (s.data.toList.take k) := by
    apply ByteArray.ext
    rw [ByteArray.data_extract]
    apply Array.ext'
    have e1 : (s.data.extract 0 (min s.size k)).toList = s.data.toList.take (min s.size k) := by rw [Array.toList_extract]; simp
    rw [e1]
    show _ = s.data.toList.take k
    have hsz : s.data.toList.length = s.size := Array.length_toList
    by_cases h : s.size ≤ k
    · rw [Nat.min_eq_left h, List.take_of_length_le (by omega), List.take_of_length_le (by omega)]
    · rw [Nat.min_eq_right (by omega)]
  have b0 : (k : Int) ≤ 1000000 := by omega
  go_enter Tryz.func11, Tryz.ntmps11
  go_wp2_with fail
  go_ret
  refine ⟨?_, rfl⟩
  rw [show (min (s.size : Int) (k : Int)).toNat = min s.size k by omega, ex]
  rfl
end
section
def nmA : Bt := [119, 48, 48, 48, 48, 48, 48, 48, 48, 48, 48, 48, 48, 48, 48, 48, 53]
def nmV : Bt := [118]
def nmT : Bt := [119, 116, 109, 112]
def nmX : Bt := [119, 48, 48, 48, 48, 48, 48, 48, 48, 48, 48, 48, 48, 48, 48, 48, 97]
def nmZ : Bt := [119, 49, 48, 48, 48, 48, 48, 48, 48, 48, 48, 48, 48, 48, 48, 48, 49]
/-- WalAny's disk. -/
def anyD (b : Bt) : Fls := [⟨nmV, [109, 105, 110, 101], 0⟩, ⟨nmA, b, 0⟩, ⟨nmX, [121], 0⟩, ⟨nmZ, [122], 0⟩, ⟨nmT, [120], 0⟩]
theorem any_made (b : Bt) (hb : b.length ≤ 2000) :
    appendD 1048576 [] nmA b = (0, [⟨nmA, b, 0⟩]) ∧
    appendD 1048576 [⟨nmA, b, 0⟩] nmV [109, 105, 110, 101] = (0, [⟨nmV, [109, 105, 110, 101], 0⟩, ⟨nmA, b, 0⟩]) ∧
    appendD 1048576 [⟨nmV, [109, 105, 110, 101], 0⟩, ⟨nmA, b, 0⟩] nmT [120] = (0, [⟨nmV, [109, 105, 110, 101], 0⟩, ⟨nmA, b, 0⟩, ⟨nmT, [120], 0⟩]) ∧
    appendD 1048576 [⟨nmV, [109, 105, 110, 101], 0⟩, ⟨nmA, b, 0⟩, ⟨nmT, [120], 0⟩] nmX [121] = (0, [⟨nmV, [109, 105, 110, 101], 0⟩, ⟨nmA, b, 0⟩, ⟨nmX, [121], 0⟩, ⟨nmT, [120], 0⟩]) ∧
    appendD 1048576 [⟨nmV, [109, 105, 110, 101], 0⟩, ⟨nmA, b, 0⟩, ⟨nmX, [121], 0⟩, ⟨nmT, [120], 0⟩] nmZ [122] = (0, anyD b) := by
  refine ⟨?_, ?_, ?_, ?_, ?_⟩
  all_goals
    rw [append_ok (by decide) (by simp [usedD]; omega)]
    simp (config := { decide := true }) [putF, putBy, bytesOf, syncedOf, getF, getBy, anyD, nmA, nmV, nmT, nmX, nmZ]
theorem any_rm (b : Bt) : (removeD (anyD b) nmT).2 = [⟨nmV, [109, 105, 110, 101], 0⟩, ⟨nmA, b, 0⟩, ⟨nmX, [121], 0⟩, ⟨nmZ, [122], 0⟩] := by
  simp (config := { decide := true }) [removeD, getF, getBy, delF, delBy, anyD, nmA, nmV, nmT, nmX, nmZ]
theorem any_list (b : Bt) : listD [⟨nmV, [109, 105, 110, 101], 0⟩, ⟨nmA, b, 0⟩, ⟨nmX, [121], 0⟩, ⟨nmZ, [122], 0⟩] [119] = [nmA, nmX, nmZ] := by
  simp (config := { decide := true }) [listD, nmA, nmV, nmX, nmZ]
theorem any_nums (b : Bt) : numsW (removeD (anyD b) nmT).2 [119] = [5] := by
  rw [any_rm, numsW, any_list]
  decide
theorem any_name : nameW [119] 5 = nmA := by rw [nameW, pad16_eq (by omega)]; decide
def anyR (b : Bt) : Fls := [⟨nmV, [109, 105, 110, 101], 0⟩, ⟨nmA, b, 0⟩, ⟨nmX, [121], 0⟩, ⟨nmZ, [122], 0⟩]
theorem any_rm' (b : Bt) : (removeD (anyD b) nmT).2 = anyR b := any_rm b
theorem any_ok (b : Bt) (hb : b.length ≤ 2000) : DOk 1048576 (anyR b) := by
  refine ⟨?_, ?_, by omega, ?_, ?_⟩
  · simp (config := { decide := true }) [SrtBy, anyR, nmA, nmV, nmX, nmZ]
  · simp [usedD, anyR]; omega
  · intro f hf
    simp [anyR] at hf
    rcases hf with rfl | rfl | rfl | rfl <;> simp
  · intro f hf
    simp [anyR] at hf
    rcases hf with rfl | rfl | rfl | rfl <;> simp [nmA, nmV, nmX, nmZ]
theorem any_bytes (b : Bt) : bytesOf nmA (anyR b) = b := by
  simp (config := { decide := true }) [bytesOf, getF, getBy, anyR, nmA, nmV]
/-- What reads give of WalAny's disk behind Open. -/
structure AnyR (D : Fls) (b : Bt) : Prop where
  a : readD D nmA = (b.take (goodB (scanB b)), 0)
  v : readD D nmV = ([109, 105, 110, 101], 0)
  x : readD D nmX = ([121], 0)
  t : readD D nmT = ([], 5)
  z : readD D nmZ = ([122], 0)
theorem any_read {D : Fls} {b c : Bt} {k : Nat} (h : ∀ x, getF x D = if nmA = x then some ⟨nmA, c, k⟩ else if nmT = x then none else getF x (anyR b)) (hc : c = b.take (goodB (scanB b))) : AnyR D b := by
  subst hc
  refine ⟨?_, ?_, ?_, ?_, ?_⟩
  · rw [readD, h, if_pos rfl]
  · rw [readD, h, if_neg (by decide), if_neg (by decide)]
    simp (config := { decide := true }) [getF, getBy, anyR, nmV]
  · rw [readD, h, if_neg (by decide), if_neg (by decide)]
    simp (config := { decide := true }) [getF, getBy, anyR, nmV, nmA, nmX]
  · rw [readD, h, if_neg (by decide), if_pos rfl]
  · rw [readD, h, if_neg (by decide), if_neg (by decide)]
    simp (config := { decide := true }) [getF, getBy, anyR, nmV, nmA, nmX, nmZ]
theorem any_open (b : Bt) (hb : b.length ≤ 2000) : ∃ D, openW 1048576 (anyD b) [119] = (0, D, [⟨5, scanB b⟩]) ∧ AnyR D b := by
  have e : openW 1048576 (anyD b) [119] = goW 1048576 [119] none [5] (anyR b) := by
    rw [openW, show tmpW [119] = nmT from rfl, any_nums, any_rm']
  rw [e]
  have hn : ¬ ((none : Option Nat) ≠ none ∧ (none : Option Nat) ≠ some 5) := fun h => h.1 rfl
  have hgl := (scan_good b.length b (Nat.le_refl _)).1
  by_cases hlt : goodB (scanB b) < b.length
  · have h1 := goW_cut (room := 1048576) (p := [119]) (n := 5) (ns := []) (D := anyR b) hn (by rw [any_name, any_bytes]; exact hlt)
    rw [any_name, any_bytes] at h1
    have h2 := anew_ok (p := [119]) (n := 5) (any_ok b hb) (by decide) (show inR 5 from ⟨by omega, by omega⟩) (b.take (goodB (scanB b))) (by rw [List.length_take]; simp [usedD, anyR]; omega)
    rw [h2.1, if_pos rfl] at h1
    refine ⟨_, h1, any_read (k := (b.take (goodB (scanB b))).length) (c := b.take (goodB (scanB b))) ?_ rfl⟩
    intro x
    have := h2.2.2.2 x
    rw [any_name] at this
    exact this
  · have h1 := goW_all (room := 1048576) (p := [119]) (n := 5) (ns := []) (D := anyR b) hn (by rw [any_name, any_bytes]; exact hlt)
    rw [any_name, any_bytes, goW] at h1
    refine ⟨anyR b, h1, any_read (c := b) (k := 0) ?_ (by rw [List.take_of_length_le (by omega)])⟩
    intro x
    by_cases h : nmA = x
    · subst h; simp (config := { decide := true }) [getF, getBy, anyR, nmA, nmV]
    · by_cases h2 : nmT = x
      · subst h2; simp (config := { decide := true }) [getF, getBy, anyR, nmA, nmV, nmT, nmX, nmZ]
      · rw [if_neg h, if_neg h2]
end
end Go.Proofs.YtdngjkjoahgelaaGreatDoor
