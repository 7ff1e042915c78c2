/-
  Bloom: hashes and places.
-/
import Derived.Test.YtgccdndlpjbkhaaProg
import Derived.Test.YtgccdndlpjbkhaaSlRow
import Derived.Test.YtgccdndlpjbkhaaRange
import Derived.Deep.LoopGhost
import Derived.Lib.Hide
import Derived.Deep.QuietTactic
import Derived.BigQuiet
import Derived.Deep.RegionHeld3
namespace Go.Proofs.Ytgccdndlpjbkhaa
open Go.RowKit

/-- One step of the hash, as both the program and the document take it. -/
def hs1 (x : Int) (c : UInt8) : Int := IntKind.u64.wrap (bits BinOp.xor .u64 x (IntKind.u64.wrap c.toNat) * 1099511628211)
def hsh (s : ByteArray) (f : Int) : Nat → Int
  | 0 => f
  | k + 1 => if h : k < s.size then hs1 (hsh s f k) s[k] else hsh s f k
theorem hsh_succ {s : ByteArray} {f : Int} {k : Nat} (h : k < s.size) : hsh s f (k + 1) = hs1 (hsh s f k) s[k] := by simp [hsh, h]
/-- The two hashes of a key. -/
abbrev hA (s : ByteArray) : Int := hsh s 14695981039346656037 s.size
abbrev hB (s : ByteArray) : Int := hsh s 9521554427338878180 s.size

section
variable {B w : World} {L : List HP}

set_option maxHeartbeats 1000000 in
theorem rhash (w : World) (s : ByteArray) (hs : s.size ≤ 9223372036854775807) (f : Int) :
    Calls Try.prog 38 #[.string s, .int .u64 f] w fun e w' => e = .returned (.int .u64 (hsh s f s.size)) ∧ w = w' := by
  go_enter Try.func38, Try.ntmps38
  go_wp2_with fail
  go_loopg [1, 5] s.size (fun g h i wr => ∃ (k : Nat) (x : Int), k + g ≤ s.size ∧ s.size ≤ k + g ∧ x = hsh s f k ∧ h = .int .u64 x ∧ i = .int .i64 k ∧ w = wr)
  case atStart => exact ⟨0, f, by omega, by omega, rfl, rfl, rfl, rfl⟩
  case round =>
    obtain ⟨k, x, hg1, hg2, hx, rfl, rfl, rfl⟩ := hrel
    have Hx := Lib.hid hx
    clear hx
    by_cases hk : k < s.size
    · go_wp2_with fail
      go_roundg (gk - 1)
      case measure => omega
      case rel => exact ⟨k + 1, _, by omega, by omega, by rw [hsh_succ hk, ← Hx.out]; rfl, rfl, by go_num, rfl⟩
    · go_wp2_with fail
      go_ret
      rw [Hx.out, show k = s.size by omega]
      exact ⟨rfl, rfl⟩

theorem u64_elem : Elem Try.prog 65 67 (.int .u64 0) 1 8 :=
  ⟨Try.underlying65, by kernel_rfl, rfl, by decide, by simp [Value.cells, Value.oneCell']⟩
def pair (x y : Int) : List Value := [.int .u64 x, .int .u64 y]

set_option maxHeartbeats 1000000 in
theorem hashes_two (s : ByteArray) (hs : s.size ≤ 9223372036854775807) (f f2 : Int) (g0 : Nat) (h : Sat B (pt g0 (.cells #[.int .u64 f, .int .u64 f2] 67) :: L) w) :
    Calls Try.prog 37 #[.string s, .slice (some ⟨g0, 0, none⟩) 2 2] w fun e w' => ∃ g off c, e = .returned (.slice (some ⟨g, off, none⟩) 2 c) ∧
      Sat B (row 67 1 (.slice (some ⟨g, off, none⟩) 2 c) 2 (pair (hsh s f s.size) (hsh s f2 s.size)) :: pt g0 (.cells #[.int .u64 f, .int .u64 f2] 67) :: L) w' := by
  have hr : reads w (.slice (some ⟨g0, 0, none⟩) 2 2) 2 (pair f f2) := by
    refine ⟨_, _, rfl, (fun e => by cases e), Nat.le_refl _, by unfold maxLen; omega, fun j u e => ⟨_, _, rfl, ?_⟩⟩
    rw [h.pt_cell, Nat.zero_add]
    simpa [pair] using e
  go_enter Try.func37, Try.ntmps37
  go_wp2_with (at_builtin; refine wpList_append_to rfl u64_elem (.const (.slice none 0 0)) (.tmp 8) rfl _ _ 0 2 2 [] (pair f f2) (pair f f2) rfl rfl (h.row_nil _ _) hr rfl (by simp [pair, Value.oneCell']) rfl rfl (by unfold maxLen; omega) (by omega) ?_; intro a1 c1 w1 h1; go_frame)
  have h1 : Sat B (row 67 1 (.slice _ 2 _) 2 (pair f f2) :: pt g0 (.cells #[.int .u64 f, .int .u64 f2] 67) :: L) _ := ‹_›
  obtain ⟨g, off, ha, -, -, -, -⟩ := h1.row_cell 0 (by omega)
  subst ha
  clear h hr
  go_loopg [12] s.size (fun gh i wr => ∃ (k : Nat), k + gh ≤ s.size ∧ s.size ≤ k + gh ∧ i = .int .i64 k ∧
    Sat B (row 67 1 (.slice (some ⟨g, off, none⟩) 2 c1) 2 (pair (hsh s f k) (hsh s f2 k)) :: pt g0 (.cells #[.int .u64 f, .int .u64 f2] 67) :: L) wr)
  case atStart => exact ⟨0, by omega, by omega, rfl, h1⟩
  case round =>
    obtain ⟨gO, rfl⟩ : ∃ gO : Nat, gO = gk := ⟨_, rfl⟩
    obtain ⟨k, hg1, hg2, rfl, hs1⟩ := hrel
    clear h1
    by_cases hk : k < s.size
    · go_wp2_with fail
      go_loopg [17] 2 (fun gh i wr => ∃ (m : Nat), m + gh ≤ 2 ∧ 2 ≤ m + gh ∧ i = .int .i64 m ∧
        Sat B (row 67 1 (.slice (some ⟨g, off, none⟩) 2 c1) 2 (pair (hsh s f (if 1 ≤ m then k + 1 else k)) (hsh s f2 (if 2 ≤ m then k + 1 else k))) :: pt g0 (.cells #[.int .u64 f, .int .u64 f2] 67) :: L) wr)
      case atStart => exact ⟨0, by omega, by omega, rfl, hs1⟩
      case round =>
        obtain ⟨m, hm1, hm2, rfl, hs2⟩ := hrel
        clear hs1
        by_cases hm : m < 2
        · obtain ⟨x, hx⟩ : ∃ x, (pair (hsh s f (if 1 ≤ m then k + 1 else k)) (hsh s f2 (if 2 ≤ m then k + 1 else k)))[m]? = some (.int .u64 x) := by
            obtain rfl | rfl : m = 0 ∨ m = 1 := by omega
            · exact ⟨_, rfl⟩
            · exact ⟨_, rfl⟩
          obtain ⟨_, _, hgo, q0, q1, q2, -⟩ := hs2.row_cell m (by omega)
          cases hgo
          rw [hx] at q0
          have Hx := Lib.hid hx
          clear hx
          go_wp2_with fail
          go_region
          all_goals
            go_wp2_with fail
            go_roundg (gk - 1)
            case measure => omega
            case rel =>
              have hs3 := (hs2.row_set m (by omega) (u := .int .u64 (Go.Proofs.Ytgccdndlpjbkhaa.hs1 x s[k])) rfl).drew
              have e1 := hsh_succ (f := f) hk
              have e2 := hsh_succ (f := f2) hk
              have hx := Hx.out
              obtain rfl | rfl : m = 0 ∨ m = 1 := by omega
              · simp [pair] at hx
                subst hx
                refine ⟨1, by omega, by omega, rfl, ?_⟩
                simpa [pair, e1, Go.Proofs.Ytgccdndlpjbkhaa.hs1] using hs3
              · simp [pair] at hx
                subst hx
                refine ⟨2, by omega, by omega, rfl, ?_⟩
                simpa [pair, e1, e2, Go.Proofs.Ytgccdndlpjbkhaa.hs1] using hs3
        · obtain rfl : m = 2 := by omega
          go_wp2_with fail
          go_roundg (gO - 1)
          case measure => omega
          case rel => exact ⟨k + 1, by omega, by omega, by go_num, hs2⟩
    · go_wp2_with fail
      go_ret
      rw [show k = s.size by omega] at hs1
      exact ⟨_, _, _, rfl, hs1⟩
end
end Go.Proofs.Ytgccdndlpjbkhaa
