/-
  wire.PutNumber, PutText, PutByte, and the document's: contracts. wire.PutNumber, PutText, PutByte: contracts.
-/
import Derived.Test.YtcjindifdghpgaaGreatDoorScr1
import Derived.Test.YtcjindifdghpgaaGreatDoorScrJ
import Derived.Test.YtcjindifdghpgaaGreatDoorScr4
import Derived.Test.YtcjindifdghpgaaGreatDoorOpsCE
import Derived.Test.YtcjindifdghpgaaGreatDoorSlMark
namespace Go.Proofs.YtcjindifdghpgaaGreatDoor
set_option linter.all false
open Go.RowKit
section
variable {B w : World} {L : List HP}
/-- A number's bytes, seven bits in each. -/
def vnL (n : Nat) : Bs := if h : n < 128 then [UInt8.ofNat n] else UInt8.ofNat (n % 128 + 128) :: vnL (n / 128)
termination_by n
decreasing_by omega
theorem vn_low {n : Nat} (h : n < 128) : vnL n = [UInt8.ofNat n] := by rw [vnL, dif_pos h]
theorem vn_high {n : Nat} (h : ¬ n < 128) : vnL n = UInt8.ofNat (n % 128 + 128) :: vnL (n / 128) := by rw [vnL, dif_neg h]
theorem vn_len : ∀ (k n : Nat), n < 128 ^ (k + 1) → (vnL n).length ≤ k + 1
  | 0, n, h => by rw [vn_low (by simpa using h)]; simp
  | k + 1, n, h => by
    by_cases h1 : n < 128
    · rw [vn_low h1]; simp
    · rw [vn_high h1]
      have := vn_len k (n / 128) (by rw [Nat.pow_succ] at h; omega)
      simp; omega
theorem vn_len10 (n : Nat) (h : n < 18446744073709551616) : (vnL n).length ≤ 10 := vn_len 9 n (Nat.lt_trans h (by decide))
theorem vn_pos (n : Nat) : 1 ≤ (vnL n).length := by
  by_cases h : n < 128
  · rw [vn_low h]; simp
  · rw [vn_high h]; simp
theorem ba_list (a : ByteArray) (l : Bs) : a ++ (⟨l.toArray⟩ : ByteArray) = ⟨(a.data.toList ++ l).toArray⟩ := ba_ext (by simp)
set_option maxHeartbeats 1000000 in
set_option maxRecDepth 100000 in
theorem rnum01 (n : Nat) (hn : n < 18446744073709551616) (w : World) : Calls Tryz.prog 141 #[.int .u64 n] w fun y w' => y = .returned (.string ⟨(vnL n).toArray⟩) ∧ Below w.heap.size w w' := by
  have h := Sat.start w
  go_enter Tryz.func141, Tryz.ntmps141
  go_wp2_with fail
  go_loopg [0, 3] (n + 1) (fun gh v0 v3 wr => ∃ (u : Nat) (l : ByteArray) (M : List HP), u + 1 ≤ gh ∧ u ≤ n ∧ l.size ≤ 20 ∧ v0 = .int .u64 u ∧ v3 = .string l ∧ Hid (l.data.toList ++ vnL u = vnL n) ∧ Sat w M wr)
  case atStart => exact ⟨n, _, [], by omega, by omega, by show 0 ≤ _; omega, rfl, rfl, Lib.hid rfl, h⟩
  case round =>
    obtain ⟨u, l, M, hg1, hu, hls, rfl, rfl, Hl, hs1⟩ := hrel
    clear h
    by_cases h128 : 128 ≤ u
    · have hi : (128 : Int) ≤ u := by omega
      obtain ⟨x, hx⟩ : ∃ x : UInt8, UInt8.ofNat (u % 128 + 128) = x := ⟨_, rfl⟩
      have hxn : (x.toNat : Int) = (u : Int) % 128 + 128 := by rw [← hx, UInt8.toNat_ofNat']; omega
      have hcv := conv1 (wr.alloc (.cells #[.int .u8 ((u : Int) % 128 + 128)] 5)) wr.heap.size x (by rw [World.cell?_alloc_new, hxn]; rfl)
      have hnew := Hl.out
      obtain ⟨v, hv⟩ : ∃ v, u / 128 = v := ⟨_, rfl⟩
      rw [vn_high (by omega), hx, hv] at hnew
      have Hn := Lib.hid hnew
      have e0 : (u : Int) / 128 = v := by omega
      have e1 : IntKind.u64.wrap (v : Int) = v := by rw [IntKind.wrap_u64]; omega
      have hvu : v < u := by omega
      have hl20 : l.size + 1 ≤ 20 := by
        have := congrArg List.length hnew
        rw [List.length_append, List.length_cons, slenB] at this
        have h10 := vn_len10 n hn
        omega
      clear hx hxn hnew hv
      go_wp2_with fail
      go_roundg (gk - 1)
      case measure => omega
      case rel =>
        refine ⟨v, _, _, by omega, by omega, ?_, by go_num, rfl, Lib.hid ?_, hs1.alloc _⟩
        · show (l ++ _).size ≤ 20
          rw [ByteArray.size_append]; exact hl20
        · rw [← Hn.out, ba_cat]; simp
    · have hlt : u < 128 := by omega
      have hi : ¬ (128 : Int) ≤ u := by omega
      obtain ⟨x, hx⟩ : ∃ x : UInt8, UInt8.ofNat u = x := ⟨_, rfl⟩
      have hxn : (x.toNat : Int) = (u : Int) := by rw [← hx, UInt8.toNat_ofNat']; omega
      have hcv := conv1 (wr.alloc (.cells #[.int .u8 (u : Int)] 5)) wr.heap.size x (by rw [World.cell?_alloc_new, hxn]; rfl)
      have hnew := Hl.out
      rw [vn_low hlt, hx] at hnew
      have Hn := Lib.hid hnew
      clear hx hxn hnew
      go_wp2_with fail
      go_ret
      refine ⟨?_, (hs1.alloc _).below⟩
      rw [← Hn.out, ← ba_list]; rfl
theorem rtext01 (s : ByteArray) (hs : s.size ≤ 140737488355328) (w : World) : Calls Tryz.prog 142 #[.string s] w fun y w' => y = .returned (.string ⟨(vnL s.size ++ s.data.toList).toArray⟩) ∧ Below w.heap.size w w' := by
  have hn := rnum01 s.size (by omega) w
  obtain ⟨t, ht⟩ : ∃ t : ByteArray, (⟨(vnL s.size).toArray⟩ : ByteArray) = t := ⟨_, rfl⟩
  have htl : t.size ≤ 10 := by rw [← ht]; exact vn_len10 _ (by omega)
  rw [ht] at hn
  have Ht := Lib.hid ht
  clear ht
  go_enter Tryz.func142, Tryz.ntmps142
  go_wp2_with (go_at_call 141; refine hn.mono ?_; rintro y w1 ⟨rfl, h1⟩)
  go_ret
  exact ⟨by rw [show t ++ s = (⟨(vnL s.size ++ s.data.toList).toArray⟩ : ByteArray) from ba_ext (by rw [← Ht.out]; simp)]; rfl, h1⟩
theorem rputn01 (b : ByteArray) (hb : b.size ≤ 140737488355328) (n : Nat) (hn : n < 18446744073709551616) (w : World) :
    Calls Tryz.prog 129 #[.string b, .int .u64 n] w fun y w' => y = .returned (.string ⟨(b.data.toList ++ vnL n).toArray⟩) ∧ Below w.heap.size w w' := by
  have hn := rnum01 n hn w
  obtain ⟨t, ht⟩ : ∃ t : ByteArray, (⟨(vnL n).toArray⟩ : ByteArray) = t := ⟨_, rfl⟩
  have htl : t.size ≤ 10 := by rw [← ht]; exact vn_len10 _ (by omega)
  rw [ht] at hn
  have Ht := Lib.hid ht
  clear ht
  go_enter Tryz.func129, Tryz.ntmps129
  go_wp2_with (go_at_call 141; refine hn.mono ?_; rintro y w1 ⟨rfl, h1⟩)
  go_ret
  exact ⟨by rw [show b ++ t = (⟨(b.data.toList ++ vnL n).toArray⟩ : ByteArray) from ba_ext (by rw [← Ht.out]; simp)]; rfl, h1⟩
theorem rputt01 (b : ByteArray) (hb : b.size ≤ 140737488355328) (s : ByteArray) (hs : s.size ≤ 140737488355328) (w : World) :
    Calls Tryz.prog 130 #[.string b, .string s] w fun y w' => y = .returned (.string ⟨(b.data.toList ++ (vnL s.size ++ s.data.toList)).toArray⟩) ∧ Below w.heap.size w w' := by
  have hn := rtext01 s hs w
  obtain ⟨t, ht⟩ : ∃ t : ByteArray, (⟨(vnL s.size ++ s.data.toList).toArray⟩ : ByteArray) = t := ⟨_, rfl⟩
  have htl : t.size ≤ 140737488355338 := by
    rw [← ht]; show (vnL s.size ++ s.data.toList).length ≤ _
    have := vn_len10 s.size (by omega)
    rw [List.length_append, slenB]; omega
  rw [ht] at hn
  have Ht := Lib.hid ht
  clear ht
  go_enter Tryz.func130, Tryz.ntmps130
  go_wp2_with (go_at_call 142; refine hn.mono ?_; rintro y w1 ⟨rfl, h1⟩)
  go_ret
  exact ⟨by rw [show b ++ t = (⟨(b.data.toList ++ (vnL s.size ++ s.data.toList)).toArray⟩ : ByteArray) from ba_ext (by rw [← Ht.out]; simp)]; rfl, h1⟩
end
end Go.Proofs.YtcjindifdghpgaaGreatDoor

namespace Go.Proofs.YtcjindifdghpgaaGreatDoor
set_option linter.all false
open Go.RowKit
section
variable {B w : World} {L : List HP}
theorem or128 (u : Nat) : bits BinOp.or IntKind.u8 ((u : Int) % 256) 128 = ((u % 128 + 128 : Nat) : Int) := by
  have h : ∀ a : Fin 256, bits BinOp.or IntKind.u8 (a.val : Int) 128 = ((a.val % 128 + 128 : Nat) : Int) := by decide +kernel
  have h2 := h ⟨u % 256, by omega⟩
  rw [show ((u : Int) % 256) = ((u % 256 : Nat) : Int) by omega, h2]
  congr 2
  show u % 256 % 128 = u % 128
  omega
set_option maxHeartbeats 1000000 in
set_option maxRecDepth 100000 in
theorem pputn (b : ByteArray) (hb : b.size ≤ 70368744177664) (n : Nat) (hn : n < 18446744073709551616) (h : Sat B L w) : Calls Tryz.prog 102 #[.string b, .int .u64 n] w fun y w' => y = .returned (.string ⟨(b.data.toList ++ vnL n).toArray⟩) ∧ Sat B L w' := by
  go_enter Tryz.func102, Tryz.ntmps102
  go_wp2_with ((with_reducible refine wpList_string_bytes rfl (.tmp 6) rfl Tryz.underlying9 Tryz.underlying23 Tryz.underlying5 b rfl (by omega) h ?_); intro a3 c3 w3 hS3; go_frame)
  go_loopg [1, 5] (n + 1) (fun gh v1 v5 wr => ∃ (u m : Nat) (a : Option Addr) (c : Nat) (l : Bs), u + 1 ≤ gh ∧ u ≤ n ∧ m ≤ b.size + 10 ∧ v1 = .int .u64 u ∧ v5 = .slice a m c ∧ Hid (l.length = m ∧ l ++ vnL u = b.data.toList ++ vnL n) ∧ Sat B (rowm 5 (.slice a m c) m (u8s l) :: L) wr)
  case atStart => exact ⟨n, b.size, _, _, _, by omega, by omega, by omega, rfl, rfl, Lib.hid ⟨slenB b, rfl⟩, hS3⟩
  case round =>
    obtain ⟨u, m, a, c, l, hg1, hu, hm, rfl, rfl, Hl, hs1⟩ := hrel
    clear hS3 h
    by_cases h128 : 128 ≤ u
    · have hi : (128 : Int) ≤ u := by omega
      obtain ⟨x, hx⟩ : ∃ x : UInt8, UInt8.ofNat (u % 128 + 128) = x := ⟨_, rfl⟩
      have hbx : bits BinOp.or IntKind.u8 ((u : Int) % 256) 128 = (x.toNat : Int) := by rw [or128, ← hx, UInt8.toNat_ofNat']; omega
      have hnew := Hl.out.2
      obtain ⟨v, hv⟩ : ∃ v, u / 128 = v := ⟨_, rfl⟩
      have hvu : v < u := by omega
      have hm1 : m + 1 ≤ b.size + 10 := by
        have h10 := vn_len10 n hn
        have := congrArg List.length hnew
        rw [List.length_append, List.length_append, vn_high (by omega), List.length_cons, slenB, Hl.out.1] at this
        have := vn_pos (u / 128)
        omega
      rw [vn_high (by omega), hx, hv] at hnew
      have e0 : (u : Int) / 128 = v := by omega
      have e1 : IntKind.u64.wrap (v : Int) = v := by rw [IntKind.wrap_u64]; omega
      have b1 : m + 1 ≤ maxLen := by unfold maxLen; omega
      have b2 : m + 1 ≤ 140737488355328 := by omega
      have Hn := Lib.hid hnew
      clear hx hnew hv
      go_wp2_with (at_builtin; (with_reducible refine wpList_append_mrow rfl u8_elem (.tmp 12) (.tmp 16) rfl _ _ m 1 (m + 1) _ [.int .u8 x.toNat] (u8s (l ++ [x])) rfl rfl ((hs1.alloc (.cells #[.int .u8 x.toNat] 5)).swap) (reads_new _ _ rfl (by omega)) rfl (by omega) (by simp [Value.oneCell']) rfl (by simp [u8s]) b1 b2 ?_); intro a5 c5 w8 hS8; go_frame)
      have hS8 := ‹Sat B (rowm 5 (.slice _ (m + 1) _) (m + 1) _ :: _ :: _) _›.swap.drop
      go_roundg (gk - 1)
      case measure => omega
      case rel =>
        refine ⟨v, m + 1, _, _, l ++ [x], by omega, by omega, by omega, by go_num, rfl, Lib.hid ⟨?_, ?_⟩, hS8⟩
        · rw [List.length_append, Hl.out.1]; rfl
        · rw [← Hn.out]; simp
    · have hlt : u < 128 := by omega
      have hi : ¬ (128 : Int) ≤ u := by omega
      obtain ⟨x, hx⟩ : ∃ x : UInt8, UInt8.ofNat u = x := ⟨_, rfl⟩
      have hxn : (u : Int) = (x.toNat : Int) := by rw [← hx, UInt8.toNat_ofNat']; omega
      have hnew := Hl.out.2
      rw [vn_low hlt, hx] at hnew
      have b1 : m + 1 ≤ maxLen := by unfold maxLen; omega
      have b2 : m + 1 ≤ 140737488355328 := by omega
      have Hn := Lib.hid hnew
      clear hx hnew
      go_wp2_with (first
        | (at_builtin; (with_reducible refine wpList_append_mrow rfl u8_elem (.tmp 18) (.tmp 21) rfl _ _ m 1 (m + 1) _ [.int .u8 x.toNat] (u8s (l ++ [x])) rfl rfl ((hs1.alloc (.cells #[.int .u8 x.toNat] 5)).swap) (reads_new _ _ rfl (by omega)) rfl (by omega) (by simp [Value.oneCell']) rfl (by simp [u8s]) b1 b2 ?_); intro a5 c5 w8 hS8; go_frame)
        | ((with_reducible refine wpList_bytes_string rfl (.tmp 22) rfl Tryz.underlying23 Tryz.underlying5 Tryz.underlying9 (.slice a5 (m + 1) c5) (m + 1) (l ++ [x]) rfl hS8.rowm_reads (by simp [Hl.out.1]) ?_); go_frame))
      go_ret
      exact ⟨by rw [← Hn.out]; rfl, ‹Sat B (rowm 5 (.slice _ (m + 1) _) (m + 1) _ :: _ :: _) _›.drop.drop⟩
set_option maxRecDepth 100000 in
theorem pputt (b : ByteArray) (hb : b.size ≤ 70368744177664) (s : ByteArray) (hs : s.size ≤ 140737488355328) (h : Sat B L w) :
    Calls Tryz.prog 104 #[.string b, .string s] w fun y w' => y = .returned (.string ⟨(b.data.toList ++ (vnL s.size ++ s.data.toList)).toArray⟩) ∧ Sat B L w' := by
  have hn := pputn b hb s.size (by omega) h
  obtain ⟨t, ht⟩ : ∃ t : ByteArray, (⟨(b.data.toList ++ vnL s.size).toArray⟩ : ByteArray) = t := ⟨_, rfl⟩
  have htl : t.size ≤ 70368744177674 := by
    rw [← ht]; show (b.data.toList ++ vnL s.size).length ≤ _
    have := vn_len10 s.size (by omega)
    rw [List.length_append, slenB]; omega
  rw [ht] at hn
  have Ht := Lib.hid ht
  clear ht
  go_enter Tryz.func104, Tryz.ntmps104
  go_wp2_with (go_at_call 102; refine hn.mono ?_; rintro y w1 ⟨rfl, h1⟩)
  go_ret
  exact ⟨by rw [show t ++ s = (⟨(b.data.toList ++ (vnL s.size ++ s.data.toList)).toArray⟩ : ByteArray) from ba_ext (by rw [← Ht.out]; simp)]; rfl, h1⟩
set_option maxRecDepth 100000 in
theorem pputb (b : ByteArray) (hb : b.size ≤ 70368744177664) (x : UInt8) (h : Sat B L w) :
    Calls Tryz.prog 106 #[.string b, .int .u8 x.toNat] w fun y w' => y = .returned (.string ⟨(b.data.toList ++ [x]).toArray⟩) ∧ Sat B L w' := by
  have b1 : b.size + 1 ≤ maxLen := by unfold maxLen; omega
  have b2 : b.size + 1 ≤ 140737488355328 := by omega
  have Hb := Lib.hid (slenB b)
  go_enter Tryz.func106, Tryz.ntmps106
  go_wp2_with (first
    | ((with_reducible refine wpList_string_bytes rfl (.tmp 5) rfl Tryz.underlying9 Tryz.underlying23 Tryz.underlying5 b rfl (by omega) h ?_); intro a3 c3 w3 hS3; go_frame)
    | (at_builtin; (with_reducible refine wpList_append_mrow rfl u8_elem (.tmp 6) (.tmp 8) rfl _ _ b.size 1 (b.size + 1) _ [.int .u8 x.toNat] (u8s (b.data.toList ++ [x])) rfl rfl ((hS3.alloc (.cells #[.int .u8 x.toNat] 5)).swap) (reads_new _ _ rfl (by omega)) rfl (by omega) (by simp [Value.oneCell']) rfl (by simp [u8s]) b1 b2 ?_); intro a5 c5 w8 hS8; go_frame)
    | ((with_reducible refine wpList_bytes_string rfl (.tmp 9) rfl Tryz.underlying23 Tryz.underlying5 Tryz.underlying9 (.slice a5 (b.size + 1) c5) (b.size + 1) (b.data.toList ++ [x]) rfl hS8.rowm_reads (by simp [Hb.out]) ?_); go_frame))
  go_ret
  exact ⟨rfl, ‹Sat B (rowm 5 (.slice _ (b.size + 1) _) (b.size + 1) _ :: _ :: _) _›.drop.drop⟩
end
end Go.Proofs.YtcjindifdghpgaaGreatDoor
