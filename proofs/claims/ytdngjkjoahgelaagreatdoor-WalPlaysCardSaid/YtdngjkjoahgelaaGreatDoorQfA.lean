/-
  WalPlays: the document's sums (acreageref02): step, Sum. WalPlays: the document's frames (acreageref02): Frame, Open. WalPlays: the document's frames (acreageref02): Scan.
-/
import Derived.Test.YtdngjkjoahgelaaGreatDoorSea
import Derived.Test.YtdngjkjoahgelaaGreatDoorDkA
import Derived.Test.YtdngjkjoahgelaaGreatDoorQdB
namespace Go.Proofs.YtdngjkjoahgelaaGreatDoor
set_option linter.all false
set_option maxRecDepth 100000
set_option maxHeartbeats 1000000
open Go.RowKit
theorem stepN_xor (a c : Nat) : stepN (a ^^^ 2 * c) = stepN a ^^^ c := by
  have h1 : (a ^^^ 2 * c) % 2 = a % 2 := by
    have := Nat.xor_mod_two_pow (a := a) (b := 2 * c) (n := 1)
    simp only [Nat.pow_one] at this
    rw [this, show 2 * c % 2 = 0 by omega, Nat.xor_zero]
  have h2 : (a ^^^ 2 * c) >>> 1 = a >>> 1 ^^^ c := by
    rw [Nat.shiftRight_xor_distrib, show (2 * c) >>> 1 = c by rw [Nat.shiftRight_eq_div_pow]; omega]
  unfold stepN
  rw [h1, h2]
  split
  · rw [Nat.xor_assoc, Nat.xor_comm c, ← Nat.xor_assoc]
  · rfl
theorem itN_xor : ∀ (k a c : Nat), itN k (a ^^^ 2 ^ k * c) = itN k a ^^^ c
  | 0, a, c => by simp [itN]
  | k + 1, a, c => by
    have e : 2 ^ (k + 1) * c = 2 ^ k * (2 * c) := by rw [Nat.pow_succ, Nat.mul_assoc]
    rw [itN, e, itN_xor k a (2 * c), stepN_xor]
    rfl
theorem low_high (x : Nat) (b : UInt8) : x ^^^ b.toNat = ((x % 256) ^^^ b.toNat) ^^^ 2 ^ 8 * (x >>> 8) := by
  have h : x = (x % 256) ^^^ 2 ^ 8 * (x >>> 8) := by
    apply Nat.eq_of_testBit_eq
    intro i
    rw [Nat.testBit_xor, show (256 : Nat) = 2 ^ 8 by rfl, Nat.testBit_mod_two_pow, Nat.testBit_two_pow_mul, Nat.testBit_shiftRight]
    by_cases hi : i < 8
    · have h8 : ¬ 8 ≤ i := by omega
      simp [hi, h8]
    · have h8 : 8 ≤ i := by omega
      simp [hi, h8]
  conv => lhs; rw [h]
  rw [Nat.xor_assoc, Nat.xor_comm (2 ^ 8 * _), ← Nat.xor_assoc]
/-- The document's step is the table's. -/
theorem step_tab (x : Nat) (b : UInt8) : itN 8 (x ^^^ b.toNat) = regN x b := by
  rw [low_high, itN_xor, regN, itN_tab, Nat.xor_comm]
theorem xor_half (y z : Nat) : (y ^^^ z) / 2 = y / 2 ^^^ z / 2 := by
  have := Nat.shiftRight_xor_distrib (a := y) (b := z) (i := 1)
  simpa [Nat.shiftRight_eq_div_pow] using this
theorem step_go {y z q : Nat} (hy : y < 4294967296) (hz : z < 256) (hq : y ^^^ z = q) : q < 4294967296 ∧ bits .xor .u32 (q : Int) (z : Int) = (y : Int) ∧
    (y % 2 = 1 → bits .xor .u32 ((q : Int) / 2) 3988292384 = ((stepN y ^^^ z / 2 : Nat) : Int)) ∧ (y % 2 ≠ 1 → (q : Int) / 2 = ((stepN y ^^^ z / 2 : Nat) : Int)) := by
  have hlt : q < 4294967296 := by rw [← hq]; exact Nat.xor_lt_two_pow (n := 32) hy (by omega)
  have hh : q / 2 = y / 2 ^^^ z / 2 := by rw [← hq, xor_half]
  refine ⟨hlt, ?_, fun h => ?_, fun h => ?_⟩
  · rw [u32_xor_nat _ _ hlt (by omega), ← hq, Nat.xor_assoc, Nat.xor_self, Nat.xor_zero]
  · have e : (q : Int) / 2 = ((q / 2 : Nat) : Int) := by omega
    rw [e, show (3988292384 : Int) = ((3988292384 : Nat) : Int) from rfl, u32_xor_nat _ _ (by omega) (by omega), hh, stepN, if_pos h, Nat.shiftRight_eq_div_pow, Nat.xor_assoc, Nat.xor_comm (z / 2), ← Nat.xor_assoc]
  · have e : (q : Int) / 2 = ((q / 2 : Nat) : Int) := by omega
    rw [e, hh, stepN, if_neg h, Nat.shiftRight_eq_div_pow]
theorem fold_snoc (l : Bt) (b : UInt8) (x : Nat) : (l ++ [b]).foldl regN x = regN (l.foldl regN x) b := by rw [List.foldl_append]; rfl
section
variable {B w : World} {L : List HP}
/-- 'step'. -/
theorem pqstep (x : Nat) (hx : x < 4294967296) (b : UInt8) : Calls Tryz.prog 120 #[.int .u32 (x : Int), .int .u8 (b.toNat : Int)] w fun y w' => y = .returned (.int .u32 (regN x b : Int)) ∧ w' = w := by
  have hb := b.toNat_lt
  obtain ⟨m, hm⟩ : ∃ m, b.toNat = m := ⟨_, rfl⟩
  have hst := step_tab x b
  rw [hm] at hb hst ⊢
  have Hst := Lib.hid hst
  have hxm : x ^^^ m < 4294967296 := Nat.xor_lt_two_pow (n := 32) hx (by omega)
  have Hlt := Lib.hid (itN_lt hxm)
  have x1 : (x : Int) ≤ 4294967295 := by omega
  have m1 : (m : Int) ≤ 255 := by omega
  clear hst hm hxm
  go_enter Tryz.func120, Tryz.ntmps120
  go_wp2_with fail
  go_loopg [0, 5] 9 (fun gh v0 v5 wr => ∃ r q : Nat, r ≤ 8 ∧ 9 ≤ r + gh ∧ v0 = .int .u32 (q : Int) ∧ Hid (itN r (x ^^^ m) ^^^ m / 2 ^ r = q) ∧ v5 = .int .i64 (r : Int) ∧ wr = w)
  case atStart => exact ⟨0, x, by omega, by omega, rfl, Lib.hid (by simp [itN, Nat.xor_assoc]), rfl, rfl⟩
  case round =>
    obtain ⟨r, q, hr1, hr2, rfl, Hq, rfl, rfl⟩ := hrel
    by_cases hr : r < 8
    · have hcase : r = 0 ∨ r = 1 ∨ r = 2 ∨ r = 3 ∨ r = 4 ∨ r = 5 ∨ r = 6 ∨ r = 7 := by omega
      obtain ⟨y, hy⟩ : ∃ y, itN r (x ^^^ m) = y := ⟨_, rfl⟩
      obtain ⟨z, hz⟩ : ∃ z, m / 2 ^ r = z := ⟨_, rfl⟩
      have hzl : z < 256 := by rw [← hz]; exact Nat.lt_of_le_of_lt (Nat.div_le_self _ _) hb
      have hyl : y < 4294967296 := by rw [← hy]; exact Hlt.out r
      have hq := Hq.out
      rw [hy, hz] at hq
      obtain ⟨q0, q1, q2, q3⟩ := step_go hyl hzl hq
      have ha := and1_u32 y hyl
      have Hn := Lib.hid (show itN (r + 1) (x ^^^ m) ^^^ m / 2 ^ (r + 1) = stepN y ^^^ z / 2 by rw [itN, hy, Nat.pow_succ, ← Nat.div_div_eq_div_mul, hz])
      have q9 : (q : Int) ≤ 4294967295 := by omega
      have b2 : (r : Int) < 8 := by omega
      clear hq hy q0
      by_cases ho : y % 2 = 1
      · have hbt : (bits .and .u32 (y : Int) 1 == 1) = true := by rw [ha]; simpa using ho
        have Q2 := q2 ho
        clear ha q2 q3 ho
        rcases hcase with rfl | rfl | rfl | rfl | rfl | rfl | rfl | rfl
        · obtain rfl : z = m := by simpa using hz.symm
          clear hz
          go_wp2_with fail
          go_roundg (gk - 1)
          case measure => omega
          case rel => exact ⟨1, _, by omega, by omega, rfl, Hn, rfl, rfl⟩
        · have hsh : (m : Int) / 2 = (z : Int) := by rw [← hz]; simp
          clear hz
          go_wp2_with fail
          go_roundg (gk - 1)
          case measure => omega
          case rel => exact ⟨2, _, by omega, by omega, rfl, Hn, rfl, rfl⟩
        · have hsh : (m : Int) / 4 = (z : Int) := by rw [← hz]; simp
          clear hz
          go_wp2_with fail
          go_roundg (gk - 1)
          case measure => omega
          case rel => exact ⟨3, _, by omega, by omega, rfl, Hn, rfl, rfl⟩
        · have hsh : (m : Int) / 8 = (z : Int) := by rw [← hz]; simp
          clear hz
          go_wp2_with fail
          go_roundg (gk - 1)
          case measure => omega
          case rel => exact ⟨4, _, by omega, by omega, rfl, Hn, rfl, rfl⟩
        · have hsh : (m : Int) / 16 = (z : Int) := by rw [← hz]; simp
          clear hz
          go_wp2_with fail
          go_roundg (gk - 1)
          case measure => omega
          case rel => exact ⟨5, _, by omega, by omega, rfl, Hn, rfl, rfl⟩
        · have hsh : (m : Int) / 32 = (z : Int) := by rw [← hz]; simp
          clear hz
          go_wp2_with fail
          go_roundg (gk - 1)
          case measure => omega
          case rel => exact ⟨6, _, by omega, by omega, rfl, Hn, rfl, rfl⟩
        · have hsh : (m : Int) / 64 = (z : Int) := by rw [← hz]; simp
          clear hz
          go_wp2_with fail
          go_roundg (gk - 1)
          case measure => omega
          case rel => exact ⟨7, _, by omega, by omega, rfl, Hn, rfl, rfl⟩
        · have hsh : (m : Int) / 128 = (z : Int) := by rw [← hz]; simp
          clear hz
          go_wp2_with fail
          go_roundg (gk - 1)
          case measure => omega
          case rel => exact ⟨8, _, by omega, by omega, rfl, Hn, rfl, rfl⟩
      · have hbt : (bits .and .u32 (y : Int) 1 == 1) = false := by rw [ha]; simpa using ho
        have Q2 := q3 ho
        clear ha q2 q3 ho
        have Q3 := Lib.hid Q2
        clear Q2
        rcases hcase with rfl | rfl | rfl | rfl | rfl | rfl | rfl | rfl
        · obtain rfl : z = m := by simpa using hz.symm
          clear hz
          go_wp2_with fail
          go_roundg (gk - 1)
          case measure => omega
          case rel => exact ⟨1, _, by omega, by omega, num_u32 Q3.out, Hn, rfl, rfl⟩
        · have hsh : (m : Int) / 2 = (z : Int) := by rw [← hz]; simp
          clear hz
          go_wp2_with fail
          go_roundg (gk - 1)
          case measure => omega
          case rel => exact ⟨2, _, by omega, by omega, num_u32 Q3.out, Hn, rfl, rfl⟩
        · have hsh : (m : Int) / 4 = (z : Int) := by rw [← hz]; simp
          clear hz
          go_wp2_with fail
          go_roundg (gk - 1)
          case measure => omega
          case rel => exact ⟨3, _, by omega, by omega, num_u32 Q3.out, Hn, rfl, rfl⟩
        · have hsh : (m : Int) / 8 = (z : Int) := by rw [← hz]; simp
          clear hz
          go_wp2_with fail
          go_roundg (gk - 1)
          case measure => omega
          case rel => exact ⟨4, _, by omega, by omega, num_u32 Q3.out, Hn, rfl, rfl⟩
        · have hsh : (m : Int) / 16 = (z : Int) := by rw [← hz]; simp
          clear hz
          go_wp2_with fail
          go_roundg (gk - 1)
          case measure => omega
          case rel => exact ⟨5, _, by omega, by omega, num_u32 Q3.out, Hn, rfl, rfl⟩
        · have hsh : (m : Int) / 32 = (z : Int) := by rw [← hz]; simp
          clear hz
          go_wp2_with fail
          go_roundg (gk - 1)
          case measure => omega
          case rel => exact ⟨6, _, by omega, by omega, num_u32 Q3.out, Hn, rfl, rfl⟩
        · have hsh : (m : Int) / 64 = (z : Int) := by rw [← hz]; simp
          clear hz
          go_wp2_with fail
          go_roundg (gk - 1)
          case measure => omega
          case rel => exact ⟨7, _, by omega, by omega, num_u32 Q3.out, Hn, rfl, rfl⟩
        · have hsh : (m : Int) / 128 = (z : Int) := by rw [← hz]; simp
          clear hz
          go_wp2_with fail
          go_roundg (gk - 1)
          case measure => omega
          case rel => exact ⟨8, _, by omega, by omega, num_u32 Q3.out, Hn, rfl, rfl⟩
    · obtain rfl : r = 8 := by omega
      have b2 : ¬ ((8 : Nat) : Int) < 8 := by omega
      have hz : m / 2 ^ 8 = 0 := by omega
      have hq : regN x b = q := by have := Hq.out; rw [hz, Nat.xor_zero, Hst.out] at this; exact this
      have Hr := Lib.hid hq
      clear hq hz
      go_wp2_with fail
      go_ret
      rw [Hr.out]
      exact ⟨rfl, rfl⟩
theorem str_at {s : Bt} {i : Nat} {b : UInt8} (hb : s[i]? = some b) (w : World) : (Instr.index 9 (.string (bA s)) (.int .i64 (i : Int))).run Tryz.prog w = .ok (.int .u8 (b.toNat : Int)) w := by
  obtain ⟨hi, e⟩ := List.getElem?_eq_some_iff.1 hb
  rw [run_index_string w _ _ _ _ Tryz.underlying9]
  have h2 : (0 : Int) ≤ i ∧ (i : Int) < (bA s).size := ⟨by omega, by simpa [ByteArray.size] using hi⟩
  rw [dif_pos h2]
  simp only [Int.toNat_natCast]
  rw [show (bA s)[i]'(by simpa [ByteArray.size] using hi) = b from e]
/-- 'Sum'. -/
theorem pqSum (s : Bt) (hs : s.length ≤ 9223372036854775807) : Calls Tryz.prog 88 #[.string (bA s)] w fun y w' => y = .returned (.int .u32 (sumN s : Int)) ∧ w' = w := by
  have hz : (bA s).size = s.length := by simp [ByteArray.size]
  obtain ⟨n, hn⟩ : ∃ n, s.length = n := ⟨_, rfl⟩
  have Hn := Lib.hid hn
  rw [hn] at hz hs
  have n1 : (n : Int) ≤ 9223372036854775807 := by omega
  clear hn
  go_enter Tryz.func88, Tryz.ntmps88
  go_wp2_with fail
  go_loopg [3, 4] (n + 1) (fun gh v3 v4 wr => ∃ i q : Nat, i ≤ n ∧ n + 1 ≤ i + gh ∧ v3 = .int .u32 (q : Int) ∧ Hid ((s.take i).foldl regN 4294967295 = q) ∧ v4 = .int .i64 (i : Int) ∧ wr = w)
  case atStart => exact ⟨0, 4294967295, by omega, by omega, rfl, Lib.hid rfl, rfl, rfl⟩
  case round =>
    obtain ⟨i, q, hi1, hi2, rfl, Hq, rfl, rfl⟩ := hrel
    have hql : q < 4294967296 := by rw [← Hq.out]; exact fold_lt _ (by omega)
    by_cases hi : i < n
    · have i1 : (i : Int) < (n : Int) := by omega
      obtain ⟨b, hb⟩ : ∃ b, s[i]? = some b := ⟨_, List.getElem?_eq_getElem (by rw [Hn.out]; exact hi)⟩
      have Hnx := Lib.hid (show (s.take (i + 1)).foldl regN 4294967295 = regN q b by rw [List.take_add_one, hb]; show (s.take i ++ [b]).foldl regN _ = _; rw [fold_snoc, Hq.out])
      have hp := pqstep (w := wr) q hql b
      have hix : ∀ w, (Instr.index 9 (.string (bA s)) (.int .i64 (i : Int))).run Tryz.prog w = .ok (.int .u8 (b.toNat : Int)) w := str_at hb
      clear hb
      go_wp2_with (go_at_call 120; refine hp.mono ?_; rintro y w2 ⟨rfl, rfl⟩)
      go_roundg (gk - 1)
      case measure => omega
      case rel => exact ⟨i + 1, _, by omega, by omega, rfl, Hnx, by go_num, rfl⟩
    · obtain rfl : i = n := by omega
      have hni : ¬ (i : Int) < (i : Int) := by omega
      have hq : sumN s = 4294967295 ^^^ q := by rw [sumN, ← Hq.out, List.take_of_length_le (by rw [Hn.out]; exact Nat.le_refl _)]
      have Hr := Lib.hid hq
      clear hq
      go_wp2_with fail
      go_ret
      refine ⟨?_, rfl⟩
      rw [Hr.out, show IntKind.u32.max = ((4294967295 : Nat) : Int) from rfl, u32_xor_nat _ _ (by omega) hql]
      rfl
end
end Go.Proofs.YtdngjkjoahgelaaGreatDoor

namespace Go.Proofs.YtdngjkjoahgelaaGreatDoor
set_option linter.all false
set_option maxRecDepth 100000
set_option maxHeartbeats 1000000
open Go.RowKit
theorem openB_by_frame {s : Bt} {a b c d e f g i : UInt8} {r : Bt} {n : Nat} (hs : s = a :: b :: c :: d :: e :: f :: g :: i :: r) (hn : num4 a b c d = n) (c1 : n ≤ 1048576) (c2 : n ≤ r.length) :
    openB s = if frameB (r.take n) = s.take (8 + n) then some (r.take n) else none := by
  have hop : openB s = if n ≤ 1048576 ∧ n ≤ r.length ∧ sumN (a :: b :: c :: d :: r.take n) = num4 i g f e then some (r.take n) else none := by rw [hs]; exact openB_cons a b c d e f g i r n hn
  have hl : (r.take n).length = n := by rw [List.length_take]; omega
  by_cases h : frameB (r.take n) = s.take (8 + n)
  · rw [if_pos h]
    have h1 := openB_frame (r.take n) (s.drop (8 + n)) (by omega)
    rw [h, List.take_append_drop] at h1
    exact h1
  · rw [if_neg h]
    rw [hop]
    by_cases h2 : n ≤ 1048576 ∧ n ≤ r.length ∧ sumN (a :: b :: c :: d :: r.take n) = num4 i g f e
    · rw [if_pos h2] at hop
      have := (openB_some hop).2.2
      rw [hl] at this
      exact absurd this.symm h
    · rw [if_neg h2]
section
variable {B w : World} {L : List HP}
/-- 'Frame' of what is too long. -/
theorem pqFrame_long (b : Bt) (hb : 1048576 < b.length) (hb2 : b.length ≤ 9223372036854775807) : Calls Tryz.prog 61 #[.string (bA b)] w fun y w' => y = .returned (.tuple #[.string ⟨#[]⟩, .int .i64 3]) ∧ w' = w := by
  have hs : (bA b).size = b.length := by simp [ByteArray.size]
  have h1 : (1048576 : Int) < (b.length : Int) := by omega
  go_enter Tryz.func61, Tryz.ntmps61
  go_wp2_with fail
  go_ret2
  exact ⟨rfl, rfl⟩
/-- 'Frame'. -/
theorem pqFrame (b : Bt) (hb : b.length ≤ 1048576) : Calls Tryz.prog 61 #[.string (bA b)] w fun y w' => y = .returned (.tuple #[.string (bA (frameB b)), .int .i64 0]) ∧ Below w.heap.size w w' := by
  have hs : (bA b).size = b.length := by simp [ByteArray.size]
  have n1 : (b.length : Int) ≤ 1048576 := by omega
  obtain ⟨n, hn⟩ : ∃ n, b.length = n := ⟨_, rfl⟩
  have Hn := Lib.hid hn
  rw [hn] at hs n1 hb
  obtain ⟨a0, k0⟩ : ∃ b0, b0 = UInt8.ofNat (n / 16777216) := ⟨_, rfl⟩
  obtain ⟨a1, k1⟩ : ∃ b0, b0 = UInt8.ofNat (n / 65536) := ⟨_, rfl⟩
  obtain ⟨a2, k2⟩ : ∃ b0, b0 = UInt8.ofNat (n / 256) := ⟨_, rfl⟩
  obtain ⟨a3, k3⟩ : ∃ b0, b0 = UInt8.ofNat n := ⟨_, rfl⟩
  have f0 : IntKind.u8.wrap ((n : Int) / 16777216) = (a0.toNat : Int) := by rw [k0, ← byte_of]; congr 1
  have f1 : IntKind.u8.wrap ((n : Int) / 65536) = (a1.toNat : Int) := by rw [k1, ← byte_of]; congr 1
  have f2 : IntKind.u8.wrap ((n : Int) / 256) = (a2.toNat : Int) := by rw [k2, ← byte_of]; congr 1
  have f3 : IntKind.u8.wrap (n : Int) = (a3.toNat : Int) := by rw [k3, ← byte_of]
  have hdd : be4 b.length = [a0, a1, a2, a3] := by rw [hn, k0, k1, k2, k3]; rfl
  obtain ⟨sm, hsm⟩ : ∃ sm, sumN ([a0, a1, a2, a3] ++ b) = sm := ⟨_, rfl⟩
  have hsl : sm < 4294967296 := by rw [← hsm]; exact sumN_lt _
  obtain ⟨b0, h0⟩ : ∃ b0, b0 = UInt8.ofNat sm := ⟨_, rfl⟩
  obtain ⟨b1, h1⟩ : ∃ b0, b0 = UInt8.ofNat (sm / 256) := ⟨_, rfl⟩
  obtain ⟨b2, h2⟩ : ∃ b0, b0 = UInt8.ofNat (sm / 65536) := ⟨_, rfl⟩
  obtain ⟨b3, h3⟩ : ∃ b0, b0 = UInt8.ofNat (sm / 16777216) := ⟨_, rfl⟩
  have e0 : IntKind.u8.wrap (sm : Int) = (b0.toNat : Int) := by rw [h0, ← byte_of]
  have e1 : IntKind.u8.wrap ((sm : Int) / 256) = (b1.toNat : Int) := by rw [h1, ← byte_of]; congr 1
  have e2 : IntKind.u8.wrap ((sm : Int) / 65536) = (b2.toNat : Int) := by rw [h2, ← byte_of]; congr 1
  have e3 : IntKind.u8.wrap ((sm : Int) / 16777216) = (b3.toNat : Int) := by rw [h3, ← byte_of]; congr 1
  have hfr : frameB b = [a0, a1, a2, a3] ++ ([b0, b1, b2, b3] ++ b) := by rw [frameB, hdd, hsm, h0, h1, h2, h3]; rfl
  have Hfr := Lib.hid hfr
  have s0 : 0 ≤ (sm : Int) := by omega
  have s1 : (sm : Int) ≤ 4294967295 := by omega
  have Hsm := Lib.hid hsm
  have hds : (⟨#[a0, a1, a2, a3]⟩ : ByteArray).size = 4 := rfl
  have hqs : (⟨#[b0, b1, b2, b3]⟩ : ByteArray).size = 4 := rfl
  have hsum := fun (w : World) => pqSum (w := w) ([a0, a1, a2, a3] ++ b) (by rw [List.length_append]; simp; omega)
  rw [← bA_app, hsm] at hsum
  have hr1 : reads (w.alloc (.cells #[.int .u8 (a0.toNat : Int), .int .u8 (a1.toNat : Int), .int .u8 (a2.toNat : Int), .int .u8 (a3.toNat : Int)] 5)) (.slice (some ⟨w.heap.size, 0, none⟩) 4 4) 4 (u8s [a0, a1, a2, a3]) := reads_new (w := w) _ 5 rfl (by omega)
  have hS1 := (Sat.start w).alloc (.cells #[.int .u8 (a0.toNat : Int), .int .u8 (a1.toNat : Int), .int .u8 (a2.toNat : Int), .int .u8 (a3.toNat : Int)] 5)
  have hr2 : reads ((w.alloc (.cells #[.int .u8 (a0.toNat : Int), .int .u8 (a1.toNat : Int), .int .u8 (a2.toNat : Int), .int .u8 (a3.toNat : Int)] 5)).alloc (.cells #[.int .u8 (b0.toNat : Int), .int .u8 (b1.toNat : Int), .int .u8 (b2.toNat : Int), .int .u8 (b3.toNat : Int)] 5)) (.slice (some ⟨w.heap.size + 1, 0, none⟩) 4 4) 4 (u8s [b0, b1, b2, b3]) := reads_new (w := w.alloc (.cells #[.int .u8 (a0.toNat : Int), .int .u8 (a1.toNat : Int), .int .u8 (a2.toNat : Int), .int .u8 (a3.toNat : Int)] 5)) _ 5 (by simp) (by omega)
  have hS2 := hS1.alloc (.cells #[.int .u8 (b0.toNat : Int), .int .u8 (b1.toNat : Int), .int .u8 (b2.toNat : Int), .int .u8 (b3.toNat : Int)] 5)
  have n0 : 0 ≤ (n : Int) := by omega
  clear h0 h1 h2 h3 hfr hsm hdd k0 k1 k2 k3 hn
  go_enter Tryz.func61, Tryz.ntmps61
  go_wp2_with (first
    | ((with_reducible refine wpList_bytes_string rfl (.tmp 22) rfl Tryz.underlying97 Tryz.underlying5 Tryz.underlying9 (.slice (some ⟨w.heap.size, 0, none⟩) 4 4) 4 [a0, a1, a2, a3] rfl hr1 rfl ?_); go_frame)
    | (go_at_call 88; refine (hsum _).mono ?_; rintro y w2 ⟨rfl, rfl⟩)
    | ((with_reducible refine wpList_bytes_string rfl (.tmp 40) rfl Tryz.underlying97 Tryz.underlying5 Tryz.underlying9 (.slice (some ⟨w.heap.size + 1, 0, none⟩) 4 4) 4 [b0, b1, b2, b3] rfl hr2 rfl ?_); go_frame))
  go_ret2
  refine ⟨?_, hS2.below⟩
  rw [Hfr.out, ← List.append_assoc, ← bA_app, ← bA_app]
  rfl
/-- 'Open'. -/
theorem pqOpen (s : Bt) (hs2 : s.length ≤ 1099511627776) : Calls Tryz.prog 86 #[.string (bA s)] w fun y w' => y = .returned (openV s) ∧ Below w.heap.size w w' := by
  have hz : (bA s).size = s.length := by simp [ByteArray.size]
  by_cases hs : s.length < 8
  · have h1 : (s.length : Int) < 8 := by omega
    have hv : openV s = .tuple #[.string ⟨#[]⟩, .int .i64 0, .int .i64 4] := by rw [openV, openB_short hs]
    rw [hv]
    clear hv
    go_enter Tryz.func86, Tryz.ntmps86
    go_wp2_with fail
    go_ret3
    exact ⟨rfl, (Sat.start _).below⟩
  · have hs : 8 ≤ s.length := by omega
    obtain ⟨a, b, c, d, e, f, g, i, r, hse⟩ := openB_eight hs
    have hz' : (bA' s).size = s.length := hz
    have z0 : 0 < (bA' s).size := by rw [hz']; omega
    have z1 : 1 < (bA' s).size := by rw [hz']; omega
    have z2 : 2 < (bA' s).size := by rw [hz']; omega
    have z3 : 3 < (bA' s).size := by rw [hz']; omega
    have g0 := bA_get (s := s) (i := 0) (c := a) (by rw [hse]; rfl) z0
    have g1 := bA_get (s := s) (i := 1) (c := b) (by rw [hse]; rfl) z1
    have g2 := bA_get (s := s) (i := 2) (c := c) (by rw [hse]; rfl) z2
    have g3 := bA_get (s := s) (i := 3) (c := d) (by rw [hse]; rfl) z3
    have h8 : ¬ (s.length : Int) < 8 := by omega
    have y0 : (0 : Int) < (s.length : Int) := by omega
    have y1 : (1 : Int) < (s.length : Int) := by omega
    have y2 : (2 : Int) < (s.length : Int) := by omega
    have y3 : (3 : Int) < (s.length : Int) := by omega
    have ua := a.toNat_lt; have ub := b.toNat_lt; have uc := c.toNat_lt; have ud := d.toNat_lt
    have ua1 : (a.toNat : Int) ≤ 255 := by omega
    have ub1 : (b.toNat : Int) ≤ 255 := by omega
    have uc1 : (c.toNat : Int) ≤ 255 := by omega
    have ud1 : (d.toNat : Int) ≤ 255 := by omega
    have hor := or_be a b c d
    obtain ⟨n, hn⟩ : ∃ n, num4 a b c d = n := ⟨_, rfl⟩
    rw [hn] at hor
    have hop := fun c1 c2 => openB_by_frame hse hn (n := n) c1 c2
    have hno : ¬ (n ≤ 1048576 ∧ n ≤ r.length) → openB s = none := fun h => by
      have h1 : openB s = if n ≤ 1048576 ∧ n ≤ r.length ∧ sumN (a :: b :: c :: d :: r.take n) = num4 i g f e then some (r.take n) else none := by rw [hse]; exact openB_cons a b c d e f g i r n hn
      rw [h1, if_neg (fun h2 => h ⟨h2.1, h2.2.1⟩)]
    have hsl : s.length = r.length + 8 := by rw [hse]; rfl
    have Hop := Lib.hid hop
    have Hno := Lib.hid hno
    have HS := Lib.hid hse
    have Hsl := Lib.hid hsl
    have s3 : (s.length : Int) ≤ 1099511627776 := by omega
    clear ua ub uc ud hop hno hse hn
    by_cases c1 : n ≤ 1048576
    · by_cases c2 : n ≤ r.length
      · have d1 : ¬ (n : Int) > 1048576 := by omega
        have d2 : ¬ (s.length : Int) - 8 < (n : Int) := by omega
        have d3 : (8 : Int) + (n : Int) ≤ (s.length : Int) := by omega
        have d4 : (n : Int) ≤ 1048576 := by omega
        obtain ⟨bd, hbd⟩ : ∃ bd : Bt, r.take n = bd := ⟨_, rfl⟩
        have hbl : bd.length = n := by rw [← hbd, List.length_take]; omega
        have ex1 : (bA s).extract 0 (8 + n) = bA (s.take (8 + n)) := ext_take s ((8 + n : Nat) : Int) (8 + n) rfl
        have ex2 : (bA s).extract 8 (8 + n) = bA bd := by
          apply ByteArray.ext
          rw [ByteArray.data_extract, ← hbd, HS.out]
          simp
        have hF := fun (w : World) => pqFrame (w := w) bd (by omega)
        obtain ⟨tk, htk⟩ : ∃ tk : Bt, s.take (8 + n) = tk := ⟨_, rfl⟩
        have hop := Hop.out c1 c2
        rw [hbd, htk] at hop
        rw [htk] at ex1
        have Hop2 := Lib.hid hop
        have Hbl := Lib.hid hbl
        clear hop htk hbd hbl hsl
        by_cases hfq : frameB bd = tk
        · have hv : openV s = .tuple #[.string (bA bd), .int .i64 (8 + (n : Int)), .int .i64 0] := by rw [openV, Hop2.out, if_pos hfq]; simp only [Hbl.out]
          have Hv := Lib.hid hv
          have q1 : (frameB bd == tk) = true := by simpa using hfq
          have q2 : (frameB bd != tk) = false := by simpa using hfq
          clear hv hfq
          go_enter Tryz.func86, Tryz.ntmps86
          go_wp2_with fail
          go_quiet (fail)
          have hw := (Sat.start w).drewN nq
          generalize w.drewN nq = w1 at hw ⊢
          go_wp2_with (go_at_call 61; refine (hF _).mono ?_; rintro y w2 ⟨rfl, hb2⟩)
          go_ret3
          rw [Hv.out, ← ex2]
          exact ⟨rfl, (hw.of_below hb2).below⟩
        · have hv : openV s = .tuple #[.string ⟨#[]⟩, .int .i64 0, .int .i64 4] := by rw [openV, Hop2.out, if_neg hfq]
          have Hv := Lib.hid hv
          have q1 : (frameB bd == tk) = false := by simpa using hfq
          have q2 : (frameB bd != tk) = true := by simpa using hfq
          clear hv hfq
          go_enter Tryz.func86, Tryz.ntmps86
          go_wp2_with fail
          go_quiet (fail)
          have hw := (Sat.start w).drewN nq
          generalize w.drewN nq = w1 at hw ⊢
          go_wp2_with (go_at_call 61; refine (hF _).mono ?_; rintro y w2 ⟨rfl, hb2⟩)
          go_ret3
          rw [Hv.out]
          exact ⟨rfl, (hw.of_below hb2).below⟩
      · have d1 : ¬ (n : Int) > 1048576 := by omega
        have d2 : (s.length : Int) - 8 < (n : Int) := by omega
        have d4 : (n : Int) ≤ 1048576 := by omega
        have hv : openV s = .tuple #[.string ⟨#[]⟩, .int .i64 0, .int .i64 4] := by rw [openV, Hno.out (fun h => c2 h.2)]
        have Hv := Lib.hid hv
        clear hv hsl
        go_enter Tryz.func86, Tryz.ntmps86
        go_wp2_with fail
        go_quiet (fail)
        have hw := (Sat.start w).drewN nq
        generalize w.drewN nq = w1 at hw ⊢
        go_wp2_with fail
        go_ret3
        rw [Hv.out]
        exact ⟨rfl, hw.below⟩
    · have d1 : (n : Int) > 1048576 := by omega
      have d1' : (1048576 : Int) < (n : Int) := by omega
      have hv : openV s = .tuple #[.string ⟨#[]⟩, .int .i64 0, .int .i64 4] := by rw [openV, Hno.out (fun h => c1 h.1)]
      have Hv := Lib.hid hv
      clear hv hsl
      go_enter Tryz.func86, Tryz.ntmps86
      go_wp2_with fail
      go_quiet (fail)
      have hw := (Sat.start w).drewN nq
      generalize w.drewN nq = w1 at hw ⊢
      go_wp2_with fail
      go_ret3
      rw [Hv.out]
      exact ⟨rfl, hw.below⟩
end
end Go.Proofs.YtdngjkjoahgelaaGreatDoor

namespace Go.Proofs.YtdngjkjoahgelaaGreatDoor
set_option linter.all false
set_option maxRecDepth 100000
set_option maxHeartbeats 1000000
open Go.RowKit
section
variable {B w : World} {L : List HP}
/-- 'Scan'. -/
theorem pqScan (s : Bt) (hs : s.length ≤ 1099511627776) : Calls Tryz.prog 56 #[.string (bA s)] w fun y w' => ∃ v, y = .returned (.tuple #[v, .int .i64 (goodB (scanB s) : Int)]) ∧ Sat w (row 9 1 v (scanB s).length (strB (scanB s)) :: []) w' := by
  have h0 : Sat w (row 9 1 (.slice none 0 0) ([] : List Bt).length (strB []) :: []) w := (Sat.start w).row_nil _ _
  have Hs := Lib.hid hs
  have hsz : (bA s).size = s.length := bA_size _
  have b2 : (s.length : Int) ≤ 1099511627776 := by omega
  clear hs
  go_enter Tryz.func56, Tryz.ntmps56
  go_wp2_with fail
  go_loopg [4, 5] (s.length + 1) (fun gh v4 v5 wr => ∃ (rs : List Bt) (k : Nat), v5 = .int .i64 (k : Int) ∧ k ≤ s.length ∧ s.length + 1 ≤ k + gh ∧ Hid (goodB rs = k) ∧ Hid (rs ++ scanB (s.drop k) = scanB s) ∧ Sat w (row 9 1 v4 rs.length (strB rs) :: []) wr)
  case atStart => exact ⟨[], 0, rfl, by omega, by omega, Lib.hid rfl, Lib.hid rfl, h0⟩
  case round =>
    obtain ⟨rs, k, rfl, hk1, hk2, Hk, Hsc, hS⟩ := hrel
    have hrl := rs_le rs
    rw [Hk.out] at hrl
    have b1 : (k : Int) ≤ (s.length : Int) := by omega
    have ex : (bA s).extract k s.length = bA (s.drop k) := by
      apply ByteArray.ext
      rw [ByteArray.data_extract]
      simp
      rw [List.take_of_length_le (by rw [List.length_drop]; omega)]
    have ho := fun (w : World) => pqOpen (w := w) (s.drop k) (by have := Hs.out; rw [List.length_drop]; omega)
    cases hop : openB (s.drop k) with
    | none =>
      have hsc : scanB s = rs := by
        have := Hsc.out
        rw [scan_none hop, List.append_nil] at this
        exact this.symm
      have hv : openV (s.drop k) = .tuple #[.string ⟨#[]⟩, .int .i64 0, .int .i64 4] := by rw [openV, hop]
      rw [hv] at ho
      have Hsc2 := Lib.hid hsc
      clear hop hv hsc
      go_wp2_with (go_at_call 86; refine (ho _).mono ?_; rintro y w2 ⟨rfl, hb2⟩)
      go_ret2
      refine ⟨u4, ?_, ?_⟩
      · rw [Hsc2.out, Hk.out]; rfl
      · rw [Hsc2.out]; exact hS.of_below hb2
    | some b =>
      have hv : openV (s.drop k) = .tuple #[.string (bA b), .int .i64 (8 + (b.length : Int)), .int .i64 0] := by rw [openV, hop]
      rw [hv] at ho
      obtain ⟨t1, t2, t3⟩ := scan_step (rs := rs) (s := s) (by rw [Hk.out]; exact hk1) (by rw [Hk.out]; exact Hsc.out) (by rw [Hk.out]; exact hop)
      have hkb : goodB (rs ++ [b]) = k + (8 + b.length) := by rw [good_app, good_cons, Hk.out]; simp [goodB]
      rw [hkb] at t1 t2
      have Ht2 := Lib.hid t2
      have Hkb := Lib.hid hkb
      have b3 : (b.length : Int) ≤ 1048576 := by omega
      have b4 : rs.length + 1 ≤ maxLen := by have := Hs.out; unfold maxLen; omega
      have b5 : (rs.length + 1) * 16 ≤ 140737488355328 := by have := Hs.out; omega
      clear hop hv t2 hkb
      go_wp2_with (first
        | (go_at_call 86; refine (ho _).mono ?_; rintro y w2 ⟨rfl, hb2⟩; have h2 := ((hS.of_below hb2).alloc (.cells #[.string (bA b)] 9)).swap)
        | (at_builtin; refine wpList_append_row rfl strElem (.tmp 21) (.tmp 23) rfl u4 _ rs.length 1 (strB rs) [.string (bA b)] rfl rfl h2 (reads_new _ _ rfl (by omega)) rfl (by simp [Value.oneCell']) b4 b5 ?_; intro a' c' w3 h3; go_frame))
      go_roundg (gk - (8 + b.length))
      case measure => omega
      case rel =>
        refine ⟨rs ++ [b], k + (8 + b.length), by go_num, t1, by omega, Hkb, Ht2, ?_⟩
        have e1 : strB (rs ++ [b]) = strB rs ++ [.string (bA b)] := by simp [strB]
        rw [e1, List.length_append]
        exact h3.swap.drop
end
end Go.Proofs.YtdngjkjoahgelaaGreatDoor
