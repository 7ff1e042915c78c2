/-
  Script: hexadecimal digits: contracts of the program's and the document's functions.
-/
import Derived.Test.YtcjindifdghpgaaGreatDoorProg
import Derived.Test.YtcjindifdghpgaaGreatDoorSlA
import Derived.Test.YtcjindifdghpgaaGreatDoorScrP
import Derived.Deep.LoopGhost
import Derived.Lib.Hide
import Derived.BigRegion
namespace Go.Proofs.YtcjindifdghpgaaGreatDoor
open Go.RowKit
section
variable {B w : World} {L : List HP}
theorem u8_elem : Elem Tryz.prog 23 5 (.int .u8 0) 1 1 :=
  ⟨Tryz.underlying23, by kernel_rfl, rfl, by decide, by simp [Value.cells, Value.oneCell']⟩

abbrev hexDigits : ByteArray := ⟨#[48, 49, 50, 51, 52, 53, 54, 55, 56, 57, 97, 98, 99, 100, 101, 102]⟩
theorem dig_at (n : Nat) (h : n < 16) : ∃ d : Nat, d < 256 ∧ ((⟨#[48, 49, 50, 51, 52, 53, 54, 55, 56, 57, 97, 98, 99, 100, 101, 102]⟩ : ByteArray)[n]'h).toNat = d ∧ dg16 n = UInt8.ofNat d := by
  have : ∀ k : Fin 16, (dg16 k.val) = (hexDigits[k.val]'k.2) := by decide +kernel
  exact ⟨_, UInt8.toNat_lt _, rfl, by rw [this ⟨n, h⟩]; simp⟩

theorem and15 (c : UInt8) : bits BinOp.and .u8 c.toNat 15 = (c.toNat % 16 : Nat) := by
  have : ∀ k : Fin 256, bits BinOp.and .u8 (k.val : Nat) 15 = (k.val % 16 : Nat) := by decide +kernel
  exact this ⟨c.toNat, c.toNat_lt⟩
theorem u8_in (n : Nat) (h : n < 256) : IntKind.u8.wrap (n : Int) = n := by
  rw [IntKind.wrap_u8]; omega
theorem hex_take (s : ByteArray) (k : Nat) (h : k < s.size) (p q dp dq : Nat) (hp : s[k].toNat / 16 = p) (hq : s[k].toNat % 16 = q) (h1 : dg16 p = UInt8.ofNat dp) (h2 : dg16 q = UInt8.ofNat dq) (h3 : dp < 256) (h4 : dq < 256) :
    u8s (hexL (s.data.toList.take (k + 1))) = u8s (hexL (s.data.toList.take k)) ++ [.int .u8 dp, .int .u8 dq] := by
  have hl : k < s.data.toList.length := by rw [Array.length_toList]; exact h
  rw [List.take_succ_eq_append_getElem hl, hex_append, u8s, u8s, List.map_append]
  congr 1
  have e : s.data.toList[k] = s[k] := by simp [ByteArray.getElem_eq_getElem_data]
  rw [e]
  have e1 : (UInt8.ofNat dp).toNat = dp := by rw [UInt8.toNat_ofNat']; omega
  have e2 : (UInt8.ofNat dq).toNat = dq := by rw [UInt8.toNat_ofNat']; omega
  simp only [hexL, List.flatMap_cons, List.flatMap_nil, List.append_nil, hp, hq, h1, h2, List.map_cons, List.map_nil, e1, e2]

set_option maxHeartbeats 1000000 in
set_option maxRecDepth 100000 in
theorem phex (s : ByteArray) (hs : s.size ≤ 35184372088832) (h : Sat B L w) :
    Calls Tryz.prog 24 #[.string s] w fun e w' => e = .returned (.string ⟨(hexL s.data.toList).toArray⟩) ∧ Sat B L w' := by
  obtain ⟨n2, hn2⟩ : ∃ n2, n2 = 2 * s.size := ⟨_, rfl⟩
  have b1 : 1 * n2 ≤ 281474976710656 := by omega
  have b2 : n2 ≤ maxLen := by unfold maxLen; omega
  have e0 : 2 * (s.size : Int) = n2 := by omega
  have b3 : n2 ≤ 70368744177664 := by omega
  have Hn2 := Lib.hid hn2
  clear hn2
  go_enter Tryz.func24, Tryz.ntmps24
  go_wp2_with (at_make; refine wpList_make_row rfl u8_elem _ _ rfl 0 n2 rfl rfl h (Nat.zero_le _) b1 b2 ?_; intro a1 w1 hS1; go_frame)
  have hS1 : Sat B (row 5 1 (.slice _ 0 _) 0 [] :: L) _ := ‹_›
  clear h
  go_loopg [3, 11] s.size (fun gh v i wr => ∃ (k m : Nat) (a : Option Addr) (c : Nat), k + gh ≤ s.size ∧ s.size ≤ k + gh ∧ 2 * k ≤ m ∧ m ≤ 2 * k ∧ i = .int .i64 k ∧ v = .slice a m c ∧ Sat B (row 5 1 (.slice a m c) m (u8s (hexL (s.data.toList.take k))) :: L) wr)
  case atStart => exact ⟨0, 0, _, _, by omega, by omega, by omega, by omega, rfl, rfl, hS1⟩
  case round =>
    obtain ⟨k, m, ra, rc, hg1, hg2, hm1, hm2, rfl, rfl, hs1⟩ := hrel
    clear hS1
    by_cases hk : k < s.size
    · obtain ⟨c, hc⟩ : ∃ c, s[k] = c := ⟨_, rfl⟩
      obtain ⟨p, hp⟩ : ∃ p, c.toNat / 16 = p := ⟨_, rfl⟩
      obtain ⟨q, hq⟩ : ∃ q, c.toNat % 16 = q := ⟨_, rfl⟩
      have hc256 := c.toNat_lt
      have p1 : p < 16 := by omega
      have q1 : q < 16 := by omega
      have e1 : (c.toNat : Int) / 16 = p := by omega
      have e2 : (c.toNat : Int) % 16 = q := by omega
      have Hpq := Lib.hid (And.intro hp hq)
      clear hp hq
      have e3 : bits BinOp.and .u8 (c.toNat : Int) 15 = q := by rw [and15]; omega
      have p2 : (p : Int) < 16 := by omega
      have q2 : (q : Int) < 16 := by omega
      obtain ⟨dp, dp1, dp2, dp3⟩ := dig_at p p1
      obtain ⟨dq, dq1, dq2, dq3⟩ := dig_at q q1
      go_wp2_with fail
      have b4 : m + 2 ≤ maxLen := by unfold maxLen; omega
      have b5 : (m + 2) * 1 ≤ 140737488355328 := by omega
      have hS2 := ((hs1.drew).alloc (.cells #[.int .u8 dp, .int .u8 dq] 5)).swap
      go_region_law (refine step_append_row rfl u8_elem (.tmp 14) (.tmp 25) rfl _ _ m 2 _ _ rfl rfl hS2 (reads_new _ _ rfl (by omega)) rfl (by simp [Value.oneCell']) b4 b5 ?_; intro a' c' w' hS)
      all_goals
        go_wp2_with fail
        go_roundg (gk - 1)
        case measure => omega
        case rel =>
          have hS := ‹Sat B (row 5 1 (.slice a' (m + 2) c') _ _ :: _ :: L) _›.swap.drop
          rw [← hex_take s k hk p q dp dq (by rw [hc]; exact Hpq.out.1) (by rw [hc]; exact Hpq.out.2) dp3 dq3 dp1 dq1] at hS
          exact ⟨k + 1, m + 2, a', c', by omega, by omega, by omega, by omega, by go_num, rfl, hS⟩
    · obtain rfl : k = s.size := by omega
      have hl := hs1.row_len
      rw [u8s_len, Nat.mul_one] at hl
      have hr := hs1.row_reads
      rw [List.take_of_length_le (by rw [Array.length_toList]; exact Nat.le_refl _)] at hr hl
      go_wp2_with ((with_reducible refine wpList_bytes_string rfl (.tmp 28) rfl Tryz.underlying23 Tryz.underlying5 Tryz.underlying9 (.slice ra m rc) m (hexL s.data.toList) rfl hr hl ?_); go_frame)
      go_ret
      exact ⟨rfl, hs1.drop⟩
set_option maxHeartbeats 1000000 in
set_option maxRecDepth 100000 in
theorem rhex (s : ByteArray) (hs : s.size ≤ 35184372088832) (h : Sat B L w) :
    Calls Tryz.prog 69 #[.string s] w fun e w' => e = .returned (.string ⟨(hexL s.data.toList).toArray⟩) ∧ Sat B L w' := by
  go_enter Tryz.func69, Tryz.ntmps69
  go_wp2_with fail
  go_loopg [3, 4] s.size (fun gh v i wr => ∃ (k m : Nat) (a : Option Addr) (c : Nat), k + gh ≤ s.size ∧ s.size ≤ k + gh ∧ 2 * k ≤ m ∧ m ≤ 2 * k ∧ i = .int .i64 k ∧ v = .slice a m c ∧ Sat B (row 5 1 (.slice a m c) m (u8s (hexL (s.data.toList.take k))) :: L) wr)
  case atStart => exact ⟨0, 0, _, _, by omega, by omega, by omega, by omega, rfl, rfl, h.row_nil _ _⟩
  case round =>
    obtain ⟨k, m, ra, rc, hg1, hg2, hm1, hm2, rfl, rfl, hs1⟩ := hrel
    clear h
    by_cases hk : k < s.size
    · obtain ⟨c, hc⟩ : ∃ c, s[k] = c := ⟨_, rfl⟩
      obtain ⟨p, hp⟩ : ∃ p, c.toNat / 16 = p := ⟨_, rfl⟩
      obtain ⟨q, hq⟩ : ∃ q, c.toNat % 16 = q := ⟨_, rfl⟩
      have hc256 := c.toNat_lt
      have p1 : p < 16 := by omega
      have q1 : q < 16 := by omega
      have e1 : (c.toNat : Int) / 16 = p := by omega
      have e2 : (c.toNat : Int) % 16 = q := by omega
      have Hpq := Lib.hid (And.intro hp hq)
      clear hp hq
      have e3 : bits BinOp.and .u8 (c.toNat : Int) 15 = q := by rw [and15]; omega
      have e5 := u8_in p (by omega)
      have e6 : (c.toNat : Int).tmod 16 = q := by rw [Int.tmod_eq_emod_of_nonneg (by omega)]; omega
      have p2 : (p : Int) < 16 := by omega
      have q2 : (q : Int) < 16 := by omega
      obtain ⟨dp, dp1, dp2, dp3⟩ := dig_at p p1
      obtain ⟨dq, dq1, dq2, dq3⟩ := dig_at q q1
      go_wp2_with fail
      have b4 : m + 2 ≤ maxLen := by unfold maxLen; omega
      have b5 : (m + 2) * 1 ≤ 140737488355328 := by omega
      have hS2 := ((hs1.drew).alloc (.cells #[.int .u8 dp, .int .u8 dq] 5)).swap
      go_region_law (refine step_append_row rfl u8_elem (.tmp 11) (.tmp 22) rfl _ _ m 2 _ _ rfl rfl hS2 (reads_new _ _ rfl (by omega)) rfl (by simp [Value.oneCell']) b4 b5 ?_; intro a' c' w' hS)
      all_goals
        go_wp2_with fail
        go_roundg (gk - 1)
        case measure => omega
        case rel =>
          have hS := ‹Sat B (row 5 1 (.slice a' (m + 2) c') _ _ :: _ :: L) _›.swap.drop
          rw [← hex_take s k hk p q dp dq (by rw [hc]; exact Hpq.out.1) (by rw [hc]; exact Hpq.out.2) dp3 dq3 dp1 dq1] at hS
          exact ⟨k + 1, m + 2, a', c', by omega, by omega, by omega, by omega, by go_num, rfl, hS⟩
    · obtain rfl : k = s.size := by omega
      have hl := hs1.row_len
      rw [u8s_len, Nat.mul_one] at hl
      have hr := hs1.row_reads
      rw [List.take_of_length_le (by rw [Array.length_toList]; exact Nat.le_refl _)] at hr hl
      go_wp2_with ((with_reducible refine wpList_bytes_string rfl (.tmp 24) rfl Tryz.underlying23 Tryz.underlying5 Tryz.underlying9 (.slice ra m rc) m (hexL s.data.toList) rfl hr hl ?_); go_frame)
      go_ret
      exact ⟨rfl, hs1.drop⟩
end
end Go.Proofs.YtcjindifdghpgaaGreatDoor
