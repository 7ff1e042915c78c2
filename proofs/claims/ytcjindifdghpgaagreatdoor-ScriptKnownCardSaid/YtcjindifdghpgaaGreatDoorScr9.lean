/-
  Script: strconv.ParseUint at base 10 and 31 bits.
-/
import Derived.Test.YtcjindifdghpgaaGreatDoorScr3
import Derived.Test.YtcjindifdghpgaaGreatDoorSlMark
import Derived.Lib.ParseIntBMem
import Derived.Laws.Strings3
import Derived.Laws.Closers25
import Derived.Laws.Closers25b
import Derived.BigCall
import Derived.BigGuard
namespace Go.Proofs.YtcjindifdghpgaaGreatDoor
open Go.RowKit
section
variable {B w : World} {L : List HP}
def uintV : Lib.NumEnd Nat → Value
  | .ok u => .tuple #[.int .u64 u, .nilIface]
  | .range => .tuple #[.int .u64 2147483647, .iface 184 (.int .i64 1)]
  | _ => .tuple #[.int .u64 0, .iface 184 (.int .i64 2)]
set_option maxHeartbeats 32000000 in
set_option maxRecDepth 100000 in
theorem puint0 (t : ByteArray) (hne : t.size ≠ 0) (hmax : t.size ≤ 9223372036854775806) (h : Sat B L w) :
    Calls Tryz.prog 82 #[.string t, .int .i64 10, .int .i64 31] w fun e w' => e = .returned (uintV (Lib.parseUintM 2147483647 0 t.data.toList)) ∧ Sat B L w' := by
  have hemp : t.toList.isEmpty = false := by
    rw [← decide_eq_emptyBytes]
    exact decide_eq_false (fun h => hne (by rw [h]; rfl))
  have hmv : IntKind.u64.wrap (IntKind.u64.wrap 2147483648 - 1) = 2147483647 := by
    rw [IntKind.wrap_u64, IntKind.wrap_u64]
    decide
  have hmx : t.size ≤ 9223372036854775807 := by omega
  go_enter Tryz.func82, Tryz.ntmps82
  go_wp2_with ((with_reducible refine wpList_string_bytes rfl (.tmp 98) rfl Tryz.underlying9 Tryz.underlying23 Tryz.underlying5 t rfl hmx h ?_); intro a3 c3 w3 hS3; go_frame)
  have hsl : t.data.toList.length = t.size := by rw [Array.length_toList]; rfl
  have hform := hS3.rowm_form
  have hcells : ∃ g off, a3 = some ⟨g, off, none⟩ ∧ t.size ≤ c3 ∧ c3 ≤ 9223372036854775807 ∧ ∀ j, j < t.size → w3.cell? ⟨g, off + j, none⟩ = some (.int .u8 (t.data.toList.getD j 0).toNat) := by
    rcases hform with ⟨h1, h2, h3⟩ | ⟨g, off, cap, hv, hn, hm, hc⟩
    · exact absurd h2 hne
    · cases hv
      refine ⟨g, off, rfl, hn, by simpa [maxLen] using hm, fun j hj => hc j _ ?_⟩
      simp [u8s, List.getD, List.getElem?_eq_getElem (show j < t.data.toList.length by omega)]
  obtain ⟨g0, off0, rfl, hc1, hc2, hcell⟩ := hcells
  obtain ⟨bs, hL⟩ : ∃ bs, bs = t.data.toList := ⟨_, rfl⟩
  have hLn : bs.length = t.size := by rw [hL]; exact hsl
  rw [← hL] at hcell
  have HL := Lib.hid hL
  have HS := Lib.hid hS3
  have HC := Lib.hid hcell
  clear hform hsl hL h hS3 hcell
  go_loopg [12, 13, 101] t.size (fun gh vu vn vi wr => ∃ (k acc : Nat) (a : Int), vu = .bool false ∧ vn = .int .u64 a ∧ vi = .int .i64 k ∧ k + gh ≤ t.size ∧ t.size ≤ k + gh ∧ wr = w3 ∧ Hid (a = (acc : Int) ∧ acc ≤ 2147483647 ∧ Lib.parseUintM 2147483647 0 bs = Lib.parseUintM 2147483647 acc (bs.drop k)))
  case atStart => exact ⟨0, 0, 0, rfl, rfl, rfl, by omega, by omega, rfl, Lib.hid ⟨rfl, by omega, rfl⟩⟩
  case round =>
    obtain ⟨k, acc, a, rfl, rfl, rfl, hk1, hk2, rfl, hh⟩ := hrel
    obtain ⟨ha, hacc, hdec⟩ := hh.out
    clear hh
    have a0 : 0 ≤ a := by omega
    have a1 : a ≤ 2147483647 := by omega
    by_cases hkn : k < t.size
    · have hc := HC.out k hkn
      have hdrop : bs.drop k = bs[k]'(by omega) :: bs.drop (k + 1) := List.drop_eq_getElem_cons (by omega)
      have hget : bs.getD k 0 = bs[k]'(by omega) := by simp [List.getD, List.getElem?_eq_getElem (show k < bs.length by omega)]
      rw [hdrop] at hdec
      rw [hget] at hc
      generalize bs[k]'(by omega) = c at hc hdec
      have hc256 : c.toNat < 256 := c.toNat_lt
      clear hdrop hget
      by_cases hdig : 48 ≤ c.toNat ∧ c.toNat ≤ 57
      · obtain ⟨hd0, hd1⟩ := hdig
        have hcut : ¬ 1844674407370955162 ≤ acc := by omega
        by_cases hov : 2147483647 < acc * 10 + (c.toNat - 48)
        · have hF : Lib.parseUintM 2147483647 acc (c :: bs.drop (k + 1)) = .range := by simp [Lib.parseUintM, hd0, hd1, hcut, hov]
          rw [hF] at hdec
          have iov : 2147483647 < a * 10 + ((c.toNat : Int) - 48) := by omega
          have Hd := Lib.hid hdec
          clear hcut hacc hF hov ha hdec
          go_wp2_with fail
          go_ret2
          exact ⟨by rw [← HL.out, Hd.out]; rfl, HS.out.drop⟩
        · have hF : Lib.parseUintM 2147483647 acc (c :: bs.drop (k + 1)) = Lib.parseUintM 2147483647 (acc * 10 + (c.toNat - 48)) (bs.drop (k + 1)) := by simp [Lib.parseUintM, hd0, hd1, hcut, hov]
          have HN : Hid (a * 10 + ((c.toNat : Int) - 48) = ((acc * 10 + (c.toNat - 48) : Nat) : Int) ∧ acc * 10 + (c.toNat - 48) ≤ 2147483647 ∧ Lib.parseUintM 2147483647 0 bs = Lib.parseUintM 2147483647 (acc * 10 + (c.toNat - 48)) (bs.drop (k + 1))) := Lib.hid ⟨by omega, by omega, by rw [hdec, hF]⟩
          have iov : a * 10 + ((c.toNat : Int) - 48) ≤ 2147483647 := by omega
          clear hcut hacc hF hov hdec ha
          go_wp2_with fail
          go_roundg (gk - 1)
          case measure => omega
          case rel => exact ⟨k + 1, acc * 10 + (c.toNat - 48), a * 10 + ((c.toNat : Int) - 48), rfl, (by first | rfl | (congr 1; omega)), (by first | rfl | go_num), by omega, by omega, rfl, HN⟩
      · have hF : Lib.parseUintM 2147483647 acc (c :: bs.drop (k + 1)) = Lib.NumEnd.syntax := by simp [Lib.parseUintM, hdig]
        rw [hF] at hdec
        have Hd := Lib.hid hdec
        clear hacc hF ha hdec
        have hv0 := bits_lo_u8 .or (c.toNat : Int) 32
        have hv1 := bits_hi_u8 .or (c.toNat : Int) 32
        have hu0 := bits_lo_u8 .or 95 32
        have hu1 := bits_hi_u8 .or 95 32
        go_wp2_with (go_at_call 115; refine (Tryz.internal_strconv_lower _ _).mono ?_; rintro e w' ⟨rfl, rfl⟩)
        all_goals go_ret2
        all_goals exact ⟨by rw [← HL.out, Hd.out]; rfl, HS.out.drop⟩
    · have hkk : k = t.size := by omega
      have hF : Lib.parseUintM 2147483647 acc (bs.drop k) = .ok acc := by rw [List.drop_eq_nil_of_le (by omega)]; rfl
      rw [hF] at hdec
      subst ha
      have Hd := Lib.hid hdec
      clear hacc hF a0 a1 hdec
      go_wp2_with fail
      go_ret2
      exact ⟨by rw [← HL.out, Hd.out]; rfl, HS.out.drop⟩
end
end Go.Proofs.YtcjindifdghpgaaGreatDoor
