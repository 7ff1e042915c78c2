/-
  seal: table, Sum: contracts. seal: laid, Frame, Open, Scan: contracts. seal: Open, Scan: contracts. seal: Scan: contract. (Printed by wip/gen/sea4.py.)
-/
import Derived.Test.YtdngjkjoahgelaaGreatDoorSlA
import Derived.Test.YtdngjkjoahgelaaGreatDoorWlA
import Derived.Test.YtdngjkjoahgelaaGreatDoorWlF
import Derived.Test.YtdngjkjoahgelaaGreatDoorProg
import Derived.Lib.Hide
import Derived.Deep.QuietTactic
import Derived.BigQuiet
import Derived.Deep.LoopGhost
import Derived.Laws.BitsAllLaws
import Derived.Lib.Strings
import Derived.Lib.Endian
import Derived.Lib.EndianBits
import Derived.IntWalk
import Derived.ScopeJumps
import Derived.WalkMore
namespace Go.Proofs.YtdngjkjoahgelaaGreatDoor
set_option linter.all false
set_option maxRecDepth 100000
set_option maxHeartbeats 1000000
open Go.RowKit
def itN : Nat → Nat → Nat
  | 0, x => x
  | r + 1, x => stepN (itN r x)
theorem itN_lt {x : Nat} (h : x < 4294967296) : ∀ r, itN r x < 4294967296
  | 0 => h
  | r + 1 => stepN_lt (itN_lt h r)
theorem itN_tab (x : Nat) : itN 8 x = tabN x := rfl
theorem and1_u32 (x : Nat) (h : x < 4294967296) : (bits .and .u32 (x : Int) 1 == 1) = decide (x % 2 = 1) := by
  have := u32_and_nat x 1 h (by omega)
  rw [show (1 : Int) = ((1 : Nat) : Int) from rfl, this, Nat.and_one_is_mod]
  by_cases hx : x % 2 = 1
  · simp [hx]
  · have : x % 2 = 0 := by omega
    simp [this]
theorem step_odd {x : Nat} (h : x < 4294967296) (h1 : x % 2 = 1) : (stepN x : Int) = bits .xor .u32 ((x : Int) / 2) 3988292384 := by
  have e : (x : Int) / 2 = ((x / 2 : Nat) : Int) := by omega
  rw [e, show (3988292384 : Int) = ((3988292384 : Nat) : Int) from rfl, u32_xor_nat _ _ (by omega) (by omega), stepN, if_pos h1, Nat.shiftRight_eq_div_pow]
theorem step_even {x : Nat} (h1 : x % 2 ≠ 1) : (stepN x : Int) = (x : Int) / 2 := by
  rw [stepN, if_neg h1, Nat.shiftRight_eq_div_pow]; omega
theorem num_u32 {a b : Int} (h : a = b) : Value.int .u32 a = .int .u32 b := by rw [h]
section
variable {B w : World} {L : List HP}
/-- 'table'. -/
theorem psTable (h : Sat B L w) : Calls Tryz.prog 117 #[] w fun y w' => ∃ b cs, y = .returned (.pointer (some ⟨b, 0, none⟩)) ∧ (∀ j, j < 256 → cs[j]? = some (.int .u32 (tabN j : Int))) ∧ Sat B (pt b (.cells cs 200) :: L) w' := by
  go_enter Tryz.func117, Tryz.ntmps117
  go_wp2_with fail
  have hz : Tryz.zeroCells200.size = 256 := by kernel_rfl
  have h1 := h.alloc' (.cells Tryz.zeroCells200 200) (n := w.heap.size) rfl
  generalize w.alloc (.cells Tryz.zeroCells200 200) = w1 at h1 ⊢
  generalize Tryz.zeroCells200 = zc at h1 hz
  generalize w.heap.size = b at h1 ⊢
  have Hz := Lib.hid hz
  clear h hz
  go_loopg [4] 257 (fun gh v4 wr => ∃ (k : Nat) (cs : Array Value), k ≤ 256 ∧ 257 ≤ k + gh ∧ cs.size = 256 ∧ (∀ j, j < k → cs[j]? = some (.int .u32 (tabN j : Int))) ∧ v4 = .int .i64 (k : Int) ∧ Sat B (pt b (.cells cs 200) :: L) wr)
  case atStart => exact ⟨0, zc, by omega, by omega, Hz.out, fun j hj => by omega, rfl, h1⟩
  case round =>
    obtain ⟨k, cs, hk1, hk2, hsz, hcs, rfl, hS⟩ := hrel
    have Hs := Lib.hid hsz
    have Hc := Lib.hid hcs
    clear hsz hcs h1
    by_cases hlt : k < 256
    · have b1 : (k : Int) < 256 := by omega
      go_wp2_with fail
      obtain ⟨gO, rfl⟩ : ∃ gO, gO = gk := ⟨_, rfl⟩
      obtain ⟨w0, hw0⟩ : ∃ w0, w0 = wr := ⟨_, rfl⟩
      have HW := Lib.hid hw0
      clear hw0
      go_loopg [3, 9] 9 (fun gh v3 v9 wz => ∃ r : Nat, r ≤ 8 ∧ 9 ≤ r + gh ∧ v3 = .int .u32 (itN r k : Int) ∧ v9 = .int .i64 (r : Int) ∧ wz = w0)
      case atStart => exact ⟨0, by omega, by omega, rfl, rfl, HW.out.symm⟩
      case round =>
        obtain ⟨r, hr1, hr2, rfl, rfl, rfl⟩ := hrel
        obtain rfl := HW.out
        have hx := itN_lt (show k < 4294967296 by omega) r
        obtain ⟨x, hxe⟩ : ∃ x, itN r k = x := ⟨_, rfl⟩
        rw [hxe] at hx ⊢
        have Hx := Lib.hid hxe
        have x1 : (x : Int) ≤ 4294967295 := by omega
        clear hxe
        by_cases hr : r < 8
        · have b2 : (r : Int) < 8 := by omega
          have ha := and1_u32 x hx
          have hsx : itN (r + 1) k = stepN x := by rw [← Hx.out]; rfl
          by_cases ho : x % 2 = 1
          · have hb : (bits .and .u32 (x : Int) 1 == 1) = true := by rw [ha]; simpa using ho
            have He := Lib.hid (show (itN (r + 1) k : Int) = bits .xor .u32 ((x : Int) / 2) 3988292384 by rw [hsx]; exact step_odd hx ho)
            clear ha hsx ho
            go_wp2_with fail
            go_roundg (gk - 1)
            case measure => omega
            case rel => exact ⟨r + 1, by omega, by omega, num_u32 He.out.symm, by go_num, rfl⟩
          · have hb : (bits .and .u32 (x : Int) 1 == 1) = false := by rw [ha]; simpa using ho
            have He := Lib.hid (show (itN (r + 1) k : Int) = (x : Int) / 2 by rw [hsx]; exact step_even ho)
            clear ha hsx ho
            go_wp2_with fail
            go_roundg (gk - 1)
            case measure => omega
            case rel => exact ⟨r + 1, by omega, by omega, num_u32 He.out.symm, by go_num, rfl⟩
        · obtain rfl : r = 8 := by omega
          have b2 : ¬ ((8 : Nat) : Int) < 8 := by omega
          have c1 : ∃ v, wr.cell? ⟨b, k, none⟩ = some v := ⟨_, (hS.pt_cell k).trans (Array.getElem?_eq_getElem (by rw [Hs.out]; exact hlt))⟩
          obtain ⟨v, c1⟩ := c1
          have f1 := hS.pt_free k
          go_wp2_with fail
          have h2 := hS.set (j := k) (.int .u32 (x : Int))
          go_roundg (gO - 1)
          case measure => omega
          case rel =>
            refine ⟨k + 1, cs.setIfInBounds k (.int .u32 (x : Int)), by omega, by omega, by rw [Array.size_setIfInBounds]; exact Hs.out, fun j hj => ?_, by go_num, h2⟩
            rw [Array.getElem?_setIfInBounds]
            by_cases hjk : k = j
            · subst hjk
              rw [if_pos rfl, if_pos (by rw [Hs.out]; exact hlt), ← itN_tab, Hx.out]
            · rw [if_neg hjk]; exact Hc.out j (by omega)
    · obtain rfl : k = 256 := by omega
      have b1 : ¬ ((256 : Nat) : Int) < 256 := by omega
      go_wp2_with fail
      go_ret
      exact ⟨b, rfl, cs, Hc.out, hS⟩
/-- A register takes a byte. -/
theorem reg_eq {x : Nat} (hx : x < 4294967296) (c : UInt8) : (regN x c : Int) = bits .xor .u32 ((x : Int) / 256) ((tabN ((x % 256) ^^^ c.toNat) : Nat) : Int) := by
  have e : (x : Int) / 256 = ((x / 256 : Nat) : Int) := by omega
  rw [e, u32_xor_nat _ _ (by omega) (tabN_lt (Nat.lt_trans (low_lt x c) (by omega))), regN, Nat.shiftRight_eq_div_pow]
theorem wrap_u8 (z : Nat) : IntKind.u8.wrap (z : Int) = ((z % 256 : Nat) : Int) := by
  show ((z : Int)) % 256 = _
  omega
theorem low_eq (x : Nat) (c : UInt8) : bits .xor .u8 (((x % 256 : Nat)) : Int) (c.toNat : Int) = (((x % 256) ^^^ c.toNat : Nat) : Int) := u8_xor_nat _ _ (by omega) c.toNat_lt
/-- 'Sum' of two parts. -/
theorem psSum (h : Sat B L w) (v : Value) (a b : Bt) (hr : ∀ w', Sat B L w' → reads w' v 2 [.string (bA' a), .string (bA' b)]) (ha : a.length ≤ 9223372036854775807) (hb : b.length ≤ 9223372036854775807) :
    Calls Tryz.prog 78 #[v] w fun y w' => y = .returned (.int .u32 (sumN (a ++ b) : Int)) ∧ Sat B L w' := by
  have ht := psTable h
  have Hr := Lib.hid hr
  obtain ⟨ad, cc, rfl⟩ : ∃ ad cc, v = .slice ad 2 cc := by obtain ⟨ad, cc, e, _⟩ := hr w h; exact ⟨ad, cc, e⟩
  clear hr h
  go_enter Tryz.func78, Tryz.ntmps78
  go_wp2_with fail
  refine ht.mono ?_
  rintro y w1 ⟨tb, cs, rfl, hcs, h1⟩
  have Hcs := Lib.hid hcs
  clear hcs ht
  go_wp2_with fail
  go_loopg [4, 11] 3 (fun gh v4 v11 wr => ∃ k : Nat, k ≤ 2 ∧ 3 ≤ k + gh ∧ v4 = .int .u32 ((([a, b].take k).flatten.foldl regN 4294967295 : Nat) : Int) ∧ v11 = .int .i64 (k : Int) ∧ Sat B (pt tb (.cells cs 200) :: L) wr)
  case atStart => exact ⟨0, by omega, by omega, rfl, rfl, h1⟩
  case round =>
    obtain ⟨k, hk1, hk2, rfl, rfl, hS⟩ := hrel
    clear h1
    have hx := fold_lt ([a, b].take k).flatten (show 4294967295 < 4294967296 by omega)
    obtain ⟨x, hxe⟩ : ∃ x, ([a, b].take k).flatten.foldl regN 4294967295 = x := ⟨_, rfl⟩
    rw [hxe] at hx ⊢
    have Hx := Lib.hid hxe
    clear hxe
    by_cases hlt : k < 2
    · have b1 : (k : Int) < 2 := by omega
      obtain ⟨t, ht⟩ : ∃ t, [a, b][k]? = some t := ⟨_, List.getElem?_eq_getElem hlt⟩
      have htl : t.length ≤ 9223372036854775807 := by
        have := List.mem_of_getElem? ht
        simp at this
        rcases this with rfl | rfl
        · exact ha
        · exact hb
      obtain ⟨g, o, e0, c0⟩ : ∃ g o, ad = some ⟨g, o, none⟩ ∧ wr.cell? ⟨g, o + k, none⟩ = some (.string (bA' t)) := by
        obtain ⟨ad', cc', e, _, _, _, hc⟩ := Hr.out wr hS.drop
        cases e
        exact hc k _ (by
          have : k = 0 ∨ k = 1 := by omega
          rcases this with rfl | rfl <;> (simp at ht; subst ht; rfl))
      subst e0
      have Ht := Lib.hid ht
      have hts : (bA' t).size = t.length := by simp [ByteArray.size]
      clear ht
      go_wp2_with fail
      obtain ⟨gO, rfl⟩ : ∃ gO, gO = gk := ⟨_, rfl⟩
      go_loopg [4, 17] (t.length + 1) (fun gh v4 v17 wz => ∃ i : Nat, i ≤ t.length ∧ t.length + 1 ≤ i + gh ∧ v4 = .int .u32 (((t.take i).foldl regN x : Nat) : Int) ∧ v17 = .int .i64 (i : Int) ∧ Sat B (pt tb (.cells cs 200) :: L) wz)
      case atStart => exact ⟨0, by omega, by omega, rfl, rfl, hS⟩
      case round =>
        obtain ⟨i, hi1, hi2, rfl, rfl, hS2⟩ := hrel
        have hz := fold_lt (t.take i) hx
        obtain ⟨z, hze⟩ : ∃ z, (t.take i).foldl regN x = z := ⟨_, rfl⟩
        rw [hze] at hz ⊢
        have Hz := Lib.hid hze
        have z1 : (z : Int) ≤ 4294967295 := by omega
        clear hze hS
        by_cases hlt2 : i < t.length
        · have b2 : (i : Int) < (t.length : Int) := by omega
          have hlt3 : i < (bA' t).size := by rw [hts]; exact hlt2
          obtain ⟨c, hc⟩ : ∃ c, t[i]? = some c := ⟨_, List.getElem?_eq_getElem hlt2⟩
          have hci : (bA' t)[i]'hlt3 = c := by
            rw [List.getElem?_eq_getElem hlt2] at hc
            have := Option.some.inj hc
            rw [← this]
            simp [ByteArray.getElem_eq_getElem_data]
          have hm := low_lt z c
          have hle : bits .xor .u8 (IntKind.u8.wrap (z : Int)) (((bA' t)[i]'hlt3).toNat : Int) = (((z % 256) ^^^ c.toNat : Nat) : Int) := by rw [wrap_u8, hci]; exact low_eq z c
          have Hci := Lib.hid hc
          clear hci hc
          have hre := reg_eq hz c
          obtain ⟨m, hme⟩ : ∃ m, (z % 256) ^^^ c.toNat = m := ⟨_, rfl⟩
          rw [hme] at hm hle hre
          have c1 := (hS2.pt_cell m).trans (Hcs.out m hm)
          have m1 : (m : Int) < 256 := by omega
          clear hme
          have Hre := Lib.hid hre
          clear hre
          go_wp2_with fail
          go_quiet (fail)
          go_wp2_with fail
          go_roundg (gk - 1)
          case measure => omega
          case rel =>
            refine ⟨i + 1, by omega, by omega, num_u32 ?_, by go_num, hS2.drewN _⟩
            have e : t.take (i + 1) = t.take i ++ [c] := by rw [List.take_succ, Hci.out]; rfl
            rw [e, List.foldl_append, Hz.out]
            exact Hre.out.symm
        · obtain rfl : i = t.length := by omega
          have b2 : ¬ (t.length : Int) < (t.length : Int) := by omega
          go_wp2_with fail
          go_roundg (gO - 1)
          case measure => omega
          case rel =>
            refine ⟨k + 1, by omega, by omega, num_u32 ?_, by go_num, hS2⟩
            have e : [a, b].take (k + 1) = [a, b].take k ++ [t] := by rw [List.take_succ, Ht.out]; rfl
            rw [e, List.flatten_append, List.foldl_append, Hx.out, ← Hz.out, List.take_length]
            simp
    · obtain rfl : k = 2 := by omega
      have b1 : ¬ ((2 : Nat) : Int) < 2 := by omega
      have hfin : (sumN (a ++ b) : Int) = bits .xor .u32 4294967295 (x : Int) := by
        have e : a ++ b = ([a, b].take 2).flatten := by simp
        rw [sumN, e, Hx.out]
        exact (u32_xor_nat 4294967295 x (by omega) hx).symm
      have Hf := Lib.hid hfin
      clear hfin
      go_wp2_with fail
      go_ret
      exact ⟨by rw [Hf.out]; rfl, hS.drop⟩
end
end Go.Proofs.YtdngjkjoahgelaaGreatDoor

namespace Go.Proofs.YtdngjkjoahgelaaGreatDoor
set_option linter.all false
set_option maxRecDepth 100000
set_option maxHeartbeats 1000000
open Go.RowKit
section
variable {B w : World} {L : List HP}
theorem byte_of (n : Nat) : IntKind.u8.wrap (n : Int) = ((UInt8.ofNat n).toNat : Int) := by rw [wrap_u8, UInt8.toNat_ofNat']
theorem cat_bA (a b : Bt) : (bA' a) ++ (bA' b) = bA' (a ++ b) := by
  apply ByteArray.ext
  rw [ByteArray.data_append]
  simp
/-- 'laid'. -/
theorem psLaid (n : Nat) (hn : n ≤ 1048576) (h : Sat B L w) : Calls Tryz.prog 77 #[.int .i64 (n : Int)] w fun y w' => y = .returned (.string (bA' (be4 n))) ∧ Sat B L w' := by
  obtain ⟨b0, h0⟩ : ∃ b0, b0 = UInt8.ofNat (n / 16777216) := ⟨_, rfl⟩
  obtain ⟨b1, h1⟩ : ∃ b0, b0 = UInt8.ofNat (n / 65536) := ⟨_, rfl⟩
  obtain ⟨b2, h2⟩ : ∃ b0, b0 = UInt8.ofNat (n / 256) := ⟨_, rfl⟩
  obtain ⟨b3, h3⟩ : ∃ b0, b0 = UInt8.ofNat n := ⟨_, rfl⟩
  have e0 : IntKind.u8.wrap ((n : Int) / 16777216) = (b0.toNat : Int) := by rw [h0, ← byte_of]; congr 1
  have e1 : IntKind.u8.wrap ((n : Int) / 65536) = (b1.toNat : Int) := by rw [h1, ← byte_of]; congr 1
  have e2 : IntKind.u8.wrap ((n : Int) / 256) = (b2.toNat : Int) := by rw [h2, ← byte_of]; congr 1
  have e3 : IntKind.u8.wrap (n : Int) = (b3.toNat : Int) := by rw [h3, ← byte_of]
  have hb : be4 n = [b0, b1, b2, b3] := by rw [h0, h1, h2, h3]; rfl
  rw [hb]
  have hr : reads (w.alloc (.cells #[.int .u8 (b0.toNat : Int), .int .u8 (b1.toNat : Int), .int .u8 (b2.toNat : Int), .int .u8 (b3.toNat : Int)] 5)) (.slice (some ⟨w.heap.size, 0, none⟩) 4 4) 4 (u8s [b0, b1, b2, b3]) := reads_new (w := w) _ 5 rfl (by omega)
  have hS := h.alloc (.cells #[.int .u8 (b0.toNat : Int), .int .u8 (b1.toNat : Int), .int .u8 (b2.toNat : Int), .int .u8 (b3.toNat : Int)] 5)
  have n0 : 0 ≤ (n : Int) := by omega
  have n1 : (n : Int) ≤ 1048576 := by omega
  clear h0 h1 h2 h3 hb h
  go_enter Tryz.func77, Tryz.ntmps77
  go_wp2_with ((with_reducible refine wpList_bytes_string rfl (.tmp 14) rfl Tryz.underlying97 Tryz.underlying5 Tryz.underlying9 (.slice (some ⟨w.heap.size, 0, none⟩) 4 4) 4 [b0, b1, b2, b3] rfl hr rfl ?_); go_frame)
  go_ret
  exact ⟨rfl, hS.drop⟩
/-- Two strings in a block of their own. -/
theorem two_reads {blk : Nat} {a b : Bt} {w' : World} (h : Sat B (pt blk (.cells #[.string (bA' a), .string (bA' b)] 9) :: L) w') : reads w' (.slice (some ⟨blk, 0, none⟩) 2 2) 2 [.string (bA' a), .string (bA' b)] :=
  (h.pt_row (e := 9) (size := 1) 2 2 0 [.string (bA' a), .string (bA' b)] rfl (by intro u hu; simp at hu; rcases hu with rfl | rfl <;> rfl) (Nat.le_refl _) (by unfold maxLen; omega) (by simp) (by simp)).row_reads
/-- 'Frame'. -/
theorem psFrame (b : Bt) (hb : b.length ≤ 1048576) (h : Sat B L w) : Calls Tryz.prog 41 #[.string (bA' b)] w fun y w' => y = .returned (.tuple #[.string (bA' (frameB b)), .int .i64 0]) ∧ Sat B L w' := by
  have hs : (bA' b).size = b.length := by simp [ByteArray.size]
  have n1 : (b.length : Int) ≤ 1048576 := by omega
  have hl := psLaid b.length hb h
  obtain ⟨hd, hdd⟩ : ∃ hd, be4 b.length = hd := ⟨_, rfl⟩
  have hdl : hd.length = 4 := by rw [← hdd]; rfl
  obtain ⟨sm, hsm⟩ : ∃ sm, sumN (hd ++ b) = sm := ⟨_, rfl⟩
  have hsl : sm < 4294967296 := by rw [← hsm]; exact sumN_lt _
  obtain ⟨b0, h0⟩ : ∃ b0, b0 = UInt8.ofNat sm := ⟨_, rfl⟩
  obtain ⟨b1, h1⟩ : ∃ b0, b0 = UInt8.ofNat (sm / 256) := ⟨_, rfl⟩
  obtain ⟨b2, h2⟩ : ∃ b0, b0 = UInt8.ofNat (sm / 65536) := ⟨_, rfl⟩
  obtain ⟨b3, h3⟩ : ∃ b0, b0 = UInt8.ofNat (sm / 16777216) := ⟨_, rfl⟩
  have e0 : IntKind.u8.wrap (sm : Int) = (b0.toNat : Int) := by rw [h0, ← byte_of]
  have e1 : IntKind.u8.wrap ((sm : Int) / 256) = (b1.toNat : Int) := by rw [h1, ← byte_of]; congr 1
  have e2 : IntKind.u8.wrap ((sm : Int) / 65536) = (b2.toNat : Int) := by rw [h2, ← byte_of]; congr 1
  have e3 : IntKind.u8.wrap ((sm : Int) / 16777216) = (b3.toNat : Int) := by rw [h3, ← byte_of]; congr 1
  have hfr : frameB b = hd ++ ([b0, b1, b2, b3] ++ b) := by rw [frameB, hdd, hsm, h0, h1, h2, h3]; rfl
  have Hfr := Lib.hid hfr
  have s0 : 0 ≤ (sm : Int) := by omega
  have s1 : (sm : Int) ≤ 4294967295 := by omega
  have Hsm := Lib.hid hsm
  have hds : (bA' hd).size = 4 := by simp [ByteArray.size, hdl]
  have hqs : (bA' [b0, b1, b2, b3]).size = 4 := rfl
  have hdl2 : hd.length ≤ 9223372036854775807 := by omega
  have hb2 : b.length ≤ 9223372036854775807 := by omega
  rw [hdd] at hl
  clear h0 h1 h2 h3 hfr hsm hdd h
  go_enter Tryz.func41, Tryz.ntmps41
  go_wp2_with fail
  refine hl.mono ?_
  rintro y w1 ⟨rfl, h1⟩
  have h2 := h1.alloc' (.cells #[.string (bA' hd), .string (bA' b)] 9) (n := w1.heap.size) rfl
  have hsum := psSum h2 (.slice (some ⟨w1.heap.size, 0, none⟩) 2 2) hd b (fun w' h' => two_reads h') hdl2 hb2
  go_wp2_with fail
  refine hsum.mono ?_
  rintro y w2 ⟨rfl, h3⟩
  rw [Hsm.out]
  have hr : reads (w2.alloc (.cells #[.int .u8 (b0.toNat : Int), .int .u8 (b1.toNat : Int), .int .u8 (b2.toNat : Int), .int .u8 (b3.toNat : Int)] 5)) (.slice (some ⟨w2.heap.size, 0, none⟩) 4 4) 4 (u8s [b0, b1, b2, b3]) := reads_new (w := w2) _ 5 rfl (by omega)
  have hS := h3.alloc (.cells #[.int .u8 (b0.toNat : Int), .int .u8 (b1.toNat : Int), .int .u8 (b2.toNat : Int), .int .u8 (b3.toNat : Int)] 5)
  clear h1 h2 h3 hl hsum
  go_wp2_with ((with_reducible refine wpList_bytes_string rfl (.tmp 28) rfl Tryz.underlying97 Tryz.underlying5 Tryz.underlying9 (.slice (some ⟨w2.heap.size, 0, none⟩) 4 4) 4 [b0, b1, b2, b3] rfl hr rfl ?_); go_frame)
  go_ret2
  refine ⟨?_, hS.drop.drop⟩
  rw [Hfr.out, cat_bA, cat_bA]
  simp
end
end Go.Proofs.YtdngjkjoahgelaaGreatDoor

namespace Go.Proofs.YtdngjkjoahgelaaGreatDoor
set_option linter.all false
set_option maxRecDepth 100000
set_option maxHeartbeats 1000000
open Go.RowKit
section
variable {B w : World} {L : List HP}
theorem bA_get {s : Bt} {i : Nat} {c : UInt8} (h : s[i]? = some c) (hi : i < (bA' s).size) : (bA' s)[i]'hi = c := by
  obtain ⟨h1, h2⟩ := List.getElem?_eq_some_iff.1 h
  rw [← h2]
  simp [ByteArray.getElem_eq_getElem_data]
theorem psOpen_short (s : Bt) (hs : s.length < 8) : Calls Tryz.prog 45 #[.string (bA' s)] w fun y w' => y = .returned (.tuple #[.string ⟨#[]⟩, .int .i64 0, .int .i64 4]) ∧ w' = w := by
  have hz : (bA' s).size = s.length := by simp [ByteArray.size]
  have h1 : (s.length : Int) < 8 := by omega
  go_enter Tryz.func45, Tryz.ntmps45
  go_wp2_with fail
  go_ret3
  exact ⟨rfl, rfl⟩
theorem wraps_i64' (n : Int) (h0 : 0 ≤ n) (h1 : n < 2 ^ 63) : IntKind.i64.wrap n = n := by simp [IntKind.wrap, IntKind.bits, IntKind.signed]; omega
theorem or_be (a b c d : UInt8) : bits .or .i64 (bits .or .i64 (bits .or .i64 ((a.toNat : Int) * 16777216) ((b.toNat : Int) * 65536)) ((c.toNat : Int) * 256)) (d.toNat : Int) = ((num4 a b c d : Nat) : Int) := by
  have ha := a.toNat_lt; have hb := b.toNat_lt; have hc := c.toNat_lt; have hd := d.toNat_lt
  have e1 := bits_join .i64 63 (by decide) wraps_i64' 24 ((a.toNat : Int) * 16777216) ((b.toNat : Int) * 65536) (by omega) (by omega) (by omega) (by omega) (by omega) (by omega)
  have e2 := bits_join .i64 63 (by decide) wraps_i64' 16 ((a.toNat : Int) * 16777216 + (b.toNat : Int) * 65536) ((c.toNat : Int) * 256) (by omega) (by omega) (by omega) (by omega) (by omega) (by omega)
  have e3 := bits_join .i64 63 (by decide) wraps_i64' 8 ((a.toNat : Int) * 16777216 + (b.toNat : Int) * 65536 + (c.toNat : Int) * 256) (d.toNat : Int) (by omega) (by omega) (by omega) (by omega) (by omega) (by omega)
  rw [e1, e2, e3, num4]
  omega
theorem or_le (a b c d : UInt8) : bits .or .u32 (bits .or .u32 (bits .or .u32 (a.toNat : Int) ((b.toNat : Int) * 256)) ((c.toNat : Int) * 65536)) ((d.toNat : Int) * 16777216) = ((num4 d c b a : Nat) : Int) := by
  have ha := a.toNat_lt; have hb := b.toNat_lt; have hc := c.toNat_lt; have hd := d.toNat_lt
  have e1 := u32_or8 (a.toNat : Int) ((b.toNat : Int) * 256) (by omega) (by omega) (by omega) (by omega) (by omega)
  have e2 := u32_or16 ((a.toNat : Int) + (b.toNat : Int) * 256) ((c.toNat : Int) * 65536) (by omega) (by omega) (by omega) (by omega) (by omega)
  have e3 := u32_or24 ((a.toNat : Int) + (b.toNat : Int) * 256 + (c.toNat : Int) * 65536) ((d.toNat : Int) * 16777216) (by omega) (by omega) (by omega) (by omega) (by omega)
  rw [e1, e2, e3, num4]
  omega
def openV (s : Bt) : Value := match openB s with
  | none => .tuple #[.string ⟨#[]⟩, .int .i64 0, .int .i64 4]
  | some b => .tuple #[.string (bA' b), .int .i64 (8 + (b.length : Int)), .int .i64 0]
theorem psOpen (s : Bt) (hs : 8 ≤ s.length) (hs2 : s.length ≤ 9223372036854775807) (h : Sat B L w) : Calls Tryz.prog 45 #[.string (bA' s)] w fun y w' => y = .returned (openV s) ∧ Sat B L w' := by
  obtain ⟨a, b, c, d, e, f, g, i, r, hse⟩ := openB_eight hs
  have hz : (bA' s).size = s.length := by simp [ByteArray.size]
  have z0 : 0 < (bA' s).size := by omega
  have z1 : 1 < (bA' s).size := by omega
  have z2 : 2 < (bA' s).size := by omega
  have z3 : 3 < (bA' s).size := by omega
  have g0 := bA_get (s := s) (i := 0) (c := a) (by rw [hse]; rfl) z0
  have g1 := bA_get (s := s) (i := 1) (c := b) (by rw [hse]; rfl) z1
  have g2 := bA_get (s := s) (i := 2) (c := c) (by rw [hse]; rfl) z2
  have g3 := bA_get (s := s) (i := 3) (c := d) (by rw [hse]; rfl) z3
  have h8 : ¬ (s.length : Int) < 8 := by omega
  have y0 : (0 : Int) < (s.length : Int) := by omega
  have y1 : (1 : Int) < (s.length : Int) := by omega
  have y2 : (2 : Int) < (s.length : Int) := by omega
  have y3 : (3 : Int) < (s.length : Int) := by omega
  have ua := a.toNat_lt; have ub := b.toNat_lt; have uc := c.toNat_lt; have ud := d.toNat_lt
  have ua1 : (a.toNat : Int) ≤ 255 := by omega
  have ub1 : (b.toNat : Int) ≤ 255 := by omega
  have uc1 : (c.toNat : Int) ≤ 255 := by omega
  have ud1 : (d.toNat : Int) ≤ 255 := by omega
  have hor := or_be a b c d
  obtain ⟨n, hn⟩ : ∃ n, num4 a b c d = n := ⟨_, rfl⟩
  rw [hn] at hor
  have hop : openB s = if n ≤ 1048576 ∧ n ≤ r.length ∧ sumN (a :: b :: c :: d :: r.take n) = num4 i g f e then some (r.take n) else none := by rw [hse]; exact openB_cons a b c d e f g i r n hn
  have hsl : s.length = r.length + 8 := by rw [hse]; rfl
  have Hop := Lib.hid hop
  have HS := Lib.hid hse
  have Hsl := Lib.hid hsl
  clear ua ub uc ud hop hse hn
  by_cases c1 : n ≤ 1048576
  · by_cases c2 : n ≤ r.length
    · have d1 : ¬ (n : Int) > 1048576 := by omega
      have d2 : ¬ (n : Int) > (s.length : Int) - 8 := by omega
      have d3 : (8 : Int) + (n : Int) ≤ (s.length : Int) := by omega
      have z4 : 4 < (bA' s).size := by omega
      have z5 : 5 < (bA' s).size := by omega
      have z6 : 6 < (bA' s).size := by omega
      have z7 : 7 < (bA' s).size := by omega
      have g4 := bA_get (s := s) (i := 4) (c := e) (by rw [HS.out]; rfl) z4
      have g5 := bA_get (s := s) (i := 5) (c := f) (by rw [HS.out]; rfl) z5
      have g6 := bA_get (s := s) (i := 6) (c := g) (by rw [HS.out]; rfl) z6
      have g7 := bA_get (s := s) (i := 7) (c := i) (by rw [HS.out]; rfl) z7
      have y4 : (4 : Int) < (s.length : Int) := by omega
      have y5 : (5 : Int) < (s.length : Int) := by omega
      have y6 : (6 : Int) < (s.length : Int) := by omega
      have y7 : (7 : Int) < (s.length : Int) := by omega
      have ue := e.toNat_lt; have uf := f.toNat_lt; have ug := g.toNat_lt; have ui := i.toNat_lt
      have ue1 : (e.toNat : Int) ≤ 255 := by omega
      have uf1 : (f.toNat : Int) ≤ 255 := by omega
      have ug1 : (g.toNat : Int) ≤ 255 := by omega
      have ui1 : (i.toNat : Int) ≤ 255 := by omega
      have hol := or_le e f g i
      obtain ⟨q, hq⟩ : ∃ q, num4 i g f e = q := ⟨_, rfl⟩
      rw [hq] at hol
      have Hq := Lib.hid hq
      clear ue uf ug ui hsl hq
      go_enter Tryz.func45, Tryz.ntmps45
      go_wp2_with fail
      go_quiet (fail)
      have hw1 := h.drewN nq
      generalize w.drewN nq = w1 at hw1 ⊢
      go_wp2_with fail
      go_quiet (fail)
      have hw2 := hw1.drewN nq
      generalize w1.drewN nq = w2 at hw2 ⊢
      clear hw1 h
      go_wp2_with fail
      obtain ⟨hd, hhd⟩ : ∃ hd : Bt, [a, b, c, d] = hd := ⟨_, rfl⟩
      obtain ⟨bd, hbd⟩ : ∃ bd : Bt, r.take n = bd := ⟨_, rfl⟩
      have hbl : bd.length = n := by rw [← hbd, List.length_take]; omega
      have ex1 : (bA' s).extract 0 4 = bA' hd := by
        apply ByteArray.ext
        rw [ByteArray.data_extract, ← hhd, HS.out]
        simp
      have ex2 : (bA' s).extract 8 (8 + n) = bA' bd := by
        apply ByteArray.ext
        rw [ByteArray.data_extract, ← hbd, HS.out]
        simp
      rw [ex1, ex2]
      have hds : (bA' hd).size = 4 := by rw [← hhd]; rfl
      have h2 := hw2.alloc' (.cells #[.string (bA' hd), .string (bA' bd)] 9) (n := w2.heap.size) rfl
      have hsum := psSum h2 (.slice (some ⟨w2.heap.size, 0, none⟩) 2 2) hd bd (fun w' h' => two_reads h') (by rw [← hhd]; simp) (by omega)
      obtain ⟨sm, hsm⟩ : ∃ sm, sumN (hd ++ bd) = sm := ⟨_, rfl⟩
      rw [hsm] at hsum
      have hop2 : openB s = if sm = q then some bd else none := by
        rw [Hop.out]
        have e1 : (a :: b :: c :: d :: r.take n) = hd ++ bd := by rw [← hhd, ← hbd]; rfl
        rw [e1, hsm, Hq.out, hbd]
        by_cases hsq : sm = q
        · rw [if_pos ⟨c1, c2, hsq⟩, if_pos hsq]
        · rw [if_neg (fun h => hsq h.2.2), if_neg hsq]
      have Hop2 := Lib.hid hop2
      clear hop2 hsm h2 ex1 ex2 hhd hbd
      by_cases hsq : sm = q
      · subst hsq
        have hv : openV s = .tuple #[.string (bA' bd), .int .i64 (8 + (n : Int)), .int .i64 0] := by rw [openV, Hop2.out, if_pos rfl]; simp only [hbl]
        have Hv := Lib.hid hv
        clear hv
        refine hsum.mono ?_
        rintro y w3 ⟨rfl, h3⟩
        go_wp2_with fail
        go_ret3
        rw [Hv.out]
        exact ⟨rfl, h3.drop⟩
      · have hv : openV s = .tuple #[.string ⟨#[]⟩, .int .i64 0, .int .i64 4] := by rw [openV, Hop2.out, if_neg hsq]
        have Hv := Lib.hid hv
        have n1 : ((sm : Int) == (q : Int)) = false := by simp; omega
        have n2 : ((sm : Int) != (q : Int)) = true := by simp; omega
        clear hv
        refine hsum.mono ?_
        rintro y w3 ⟨rfl, h3⟩
        go_wp2_with fail
        go_ret3
        rw [Hv.out]
        exact ⟨rfl, h3.drop⟩
    · have hv : openV s = .tuple #[.string ⟨#[]⟩, .int .i64 0, .int .i64 4] := by rw [openV, Hop.out, if_neg (by rintro ⟨_, h, _⟩; exact c2 h)]
      have Hv := Lib.hid hv
      have d1 : ¬ (n : Int) > 1048576 := by omega
      have d2 : (n : Int) > (s.length : Int) - 8 := by omega
      clear hv hsl
      go_enter Tryz.func45, Tryz.ntmps45
      go_wp2_with fail
      go_quiet (fail)
      go_wp2_with fail
      go_ret3
      rw [Hv.out]
      exact ⟨rfl, h.drewN _⟩
  · have hv : openV s = .tuple #[.string ⟨#[]⟩, .int .i64 0, .int .i64 4] := by rw [openV, Hop.out, if_neg (by rintro ⟨h, _⟩; exact c1 h)]
    have Hv := Lib.hid hv
    have d1 : (n : Int) > 1048576 := by omega
    clear hv hsl
    go_enter Tryz.func45, Tryz.ntmps45
    go_wp2_with fail
    go_quiet (fail)
    go_wp2_with fail
    go_ret3
    rw [Hv.out]
    exact ⟨rfl, h.drewN _⟩
end
end Go.Proofs.YtdngjkjoahgelaaGreatDoor

namespace Go.Proofs.YtdngjkjoahgelaaGreatDoor
set_option linter.all false
set_option maxRecDepth 100000
set_option maxHeartbeats 2000000
open Go.RowKit
section
variable {B w : World} {L : List HP}
theorem strElem : Elem Tryz.prog 22 9 (.string ⟨#[]⟩) 1 16 :=
  ⟨Tryz.underlying22, by kernel_rfl, rfl, by decide, by simp [Value.cells, Value.oneCell']⟩
def strB' (l : List Bt) : List Value := l.map fun b => .string (bA' b)
theorem psOpenA (s : Bt) (hs2 : s.length ≤ 9223372036854775807) (h : Sat B L w) : Calls Tryz.prog 45 #[.string (bA' s)] w fun y w' => y = .returned (openV s) ∧ Sat B L w' := by
  by_cases h8 : 8 ≤ s.length
  · exact psOpen s h8 hs2 h
  · refine (psOpen_short s (by omega)).mono ?_
    rintro y w' ⟨rfl, rfl⟩
    exact ⟨by rw [openV, openB_short (by omega)], h⟩
/-- Where the scan stands. -/
structure ScanAt (B : World) (L : List HP) (s : Bt) (rs : List Bt) (v : Value) (w : World) : Prop where
  sat : Sat B (row 9 1 v rs.length (strB' rs) :: L) w
  le : goodB rs ≤ s.length
  eq : rs ++ scanB (s.drop (goodB rs)) = scanB s
def ScanJ (B : World) (L : List HP) (s : Bt) (a : Act) (w : World) : Prop := ∃ (rs : List Bt) (v : Value) (u4 u5 u6 u7 u8 u9 u10 u11 u12 u13 u14 u15 u16 u17 u18 u19 u20 u21 u22 u23 u24 u25 : Value), ScanAt B L s rs v w ∧ a = ⟨#[.string (bA' s), undef, v, .int .i64 (goodB rs : Int), u4, u5, u6, u7, u8, u9, u10, u11, u12, u13, u14, u15, u16, u17, u18, u19, u20, u21, u22, u23, u24, u25], []⟩
def goodOf (a : Act) : Nat := (intOf (a.tmps.getD 3 undef)).toNat
theorem rs_le (rs : List Bt) : 8 * rs.length ≤ goodB rs := by
  induction rs with
  | nil => simp [goodB]
  | cons b rs ih => rw [good_cons, List.length_cons]; omega
theorem ScanAt.none {s : Bt} {rs : List Bt} {v : Value} {w : World} (h : ScanAt B L s rs v w) (ho : openB (s.drop (goodB rs)) = none) : scanB s = rs := by
  have := h.eq
  rw [scan_none ho, List.append_nil] at this
  exact this.symm
theorem scan_step {s b : Bt} {rs : List Bt} (h1 : goodB rs ≤ s.length) (h2 : rs ++ scanB (s.drop (goodB rs)) = scanB s) (ho : openB (s.drop (goodB rs)) = some b) : goodB (rs ++ [b]) ≤ s.length ∧ (rs ++ [b]) ++ scanB (s.drop (goodB (rs ++ [b]))) = scanB s ∧ b.length ≤ 1048576 := by
  obtain ⟨g1, g2, _⟩ := openB_some ho
  have e : goodB (rs ++ [b]) = goodB rs + (8 + b.length) := by rw [good_app, good_cons]; simp [goodB]
  rw [List.length_drop] at g2
  refine ⟨by omega, ?_, g1⟩
  rw [← h2, scan_some ho, e, List.append_assoc, List.drop_drop]
  rfl
/-- 'Scan'. -/
def ScanPost (B : World) (L : List HP) (s : Bt) (y : Ending) (w' : World) : Prop := ∃ v, y = .returned (.tuple #[v, .int .i64 (goodB (scanB s) : Int)]) ∧ Sat B (row 9 1 v (scanB s).length (strB' (scanB s)) :: L) w'
theorem psScan (s : Bt) (hs : s.length ≤ 1099511627776) (h : Sat B L w) : Calls Tryz.prog 18 #[.string (bA' s)] w (ScanPost B L s) := by
  go_enter Tryz.func18, Tryz.ntmps18
  go_wp2_with fail
  refine wp_scope_jumps 0 (ScanJ B L s) (fun a _ => s.length - goodOf a) rfl ?_ ?_
  · have hA : ScanAt B L s [] (.slice none 0 0) w := ⟨h.row_nil _ _, Nat.zero_le _, rfl⟩
    obtain ⟨rs, hrs⟩ : ∃ rs : List Bt, [] = rs := ⟨_, rfl⟩
    obtain ⟨v, hv0⟩ : ∃ v : Value, .slice none 0 0 = v := ⟨_, rfl⟩
    have hfr : (⟨#[.string (bA' s), undef, .slice none 0 0, .int .i64 0, undef, undef, undef, undef, undef, undef, undef, undef, undef, undef, undef, undef, undef, undef, undef, undef, undef, undef, undef, undef, undef, undef], []⟩ : Act) = ⟨#[.string (bA' s), undef, v, .int .i64 (goodB rs : Int), undef, undef, undef, undef, undef, undef, undef, undef, undef, undef, undef, undef, undef, undef, undef, undef, undef, undef, undef, undef, undef, undef], []⟩ := by rw [← hrs, ← hv0]; rfl
    rw [hrs, hv0] at hA
    rw [hfr]
    clear hfr hrs hv0 h
    go_wp2_with fail
    go_step3
    have hk := hA.le
    obtain ⟨k, hke⟩ : ∃ k, goodB rs = k := ⟨_, rfl⟩
    have hS := hA.sat
    have hrl := rs_le rs
    have heq := hA.eq
    rw [hke] at hk hrl heq ⊢
    have hsz : (bA' s).size = s.length := by simp [ByteArray.size]
    have b1 : (k : Int) ≤ (s.length : Int) := by omega
    have b2 : (s.length : Int) ≤ 1099511627776 := by omega
    have ex : (bA' s).extract k s.length = bA' (s.drop k) := by
      apply ByteArray.ext
      rw [ByteArray.data_extract]
      simp
      rw [List.take_of_length_le (by rw [List.length_drop]; omega)]
    have ho := psOpenA (s.drop k) (by rw [List.length_drop]; omega) hS
    have Hke := Lib.hid hke
    have Heq := Lib.hid heq
    clear hke heq hA
    go_wp2_with fail
    refine ho.mono ?_
    rintro y w1 ⟨rfl, h1⟩
    clear ho ex hS
    cases hop : openB (s.drop k) with
    | none =>
      have hsc : scanB s = rs := by
        have := Heq.out
        rw [scan_none hop, List.append_nil] at this
        exact this.symm
      have hv : openV (s.drop k) = .tuple #[.string ⟨#[]⟩, .int .i64 0, .int .i64 4] := by rw [openV, hop]
      rw [hv]
      have Hsc := Lib.hid hsc
      clear hop hv hsc
      go_wp2_with fail
      try simp only [Exit.jump]
      go_ret2
      refine ⟨v, ?_, ?_⟩
      · rw [Hsc.out, Hke.out]; rfl
      · rw [Hsc.out]; exact h1
    | some b =>
      have hv : openV (s.drop k) = .tuple #[.string (bA' b), .int .i64 (8 + (b.length : Int)), .int .i64 0] := by rw [openV, hop]
      rw [hv]
      have hst := scan_step (by rw [Hke.out]; exact hk) (by rw [Hke.out]; exact Heq.out) (by rw [Hke.out]; exact hop)
      obtain ⟨t1, t2, t3⟩ := hst
      have hkb : goodB (rs ++ [b]) = k + (8 + b.length) := by rw [good_app, good_cons, Hke.out]; simp [goodB]
      rw [hkb] at t1
      have Ht2 := Lib.hid t2
      have Hkb := Lib.hid hkb
      have b3 : (b.length : Int) ≤ 1048576 := by omega
      have b4 : rs.length + 1 ≤ maxLen := by unfold maxLen; omega
      have b5 : (rs.length + 1) * 16 ≤ 140737488355328 := by omega
      have hbs : (bA' b).size = b.length := by simp [ByteArray.size]
      clear hop hv t2 hkb
      have h2 := (h1.alloc (.cells #[.string (bA' b)] 9)).swap
      go_wp2_with (at_builtin; refine wpList_append_row rfl strElem (.tmp 17) (.tmp 19) rfl v _ rs.length 1 (strB' rs) [.string (bA' b)] rfl rfl h2 (reads_new _ _ rfl (by omega)) rfl (by simp [Value.oneCell']) b4 b5 ?_; intro a' c' w2 h3; go_frame)
      go_step3
      have h4 : Sat B (row 9 1 (.slice a' (rs.length + 1) c') (rs ++ [b]).length (strB' (rs ++ [b])) :: L) w2 := by
        have e1 : strB' (rs ++ [b]) = strB' rs ++ [.string (bA' b)] := by simp [strB']
        rw [e1, List.length_append]
        exact h3.swap.drop
      have hnew : ScanAt B L s (rs ++ [b]) (.slice a' (rs.length + 1) c') w2 := ⟨h4, by rw [Hkb.out]; exact t1, Ht2.out⟩
      have hg2 : (k : Int) + (8 + (b.length : Int)) = (goodB (rs ++ [b]) : Int) := by rw [Hkb.out]; omega
      rw [hg2]
      exact ⟨rfl, rs ++ [b], .slice a' (rs.length + 1) c', _, _, _, _, _, _, _, _, _, _, _, _, _, _, _, _, _, _, _, _, _, _, hnew, rfl⟩
  · rintro a w ⟨rs, v, u4, u5, u6, u7, u8, u9, u10, u11, u12, u13, u14, u15, u16, u17, u18, u19, u20, u21, u22, u23, u24, u25, hA, rfl⟩
    have hk := hA.le
    obtain ⟨k, hke⟩ : ∃ k, goodB rs = k := ⟨_, rfl⟩
    have hS := hA.sat
    have hrl := rs_le rs
    have heq := hA.eq
    rw [hke] at hk hrl heq ⊢
    have hsz : (bA' s).size = s.length := by simp [ByteArray.size]
    have b1 : (k : Int) ≤ (s.length : Int) := by omega
    have b2 : (s.length : Int) ≤ 1099511627776 := by omega
    have ex : (bA' s).extract k s.length = bA' (s.drop k) := by
      apply ByteArray.ext
      rw [ByteArray.data_extract]
      simp
      rw [List.take_of_length_le (by rw [List.length_drop]; omega)]
    have ho := psOpenA (s.drop k) (by rw [List.length_drop]; omega) hS
    have Hke := Lib.hid hke
    have Heq := Lib.hid heq
    clear hke heq hA
    go_wp2_with fail
    refine ho.mono ?_
    rintro y w1 ⟨rfl, h1⟩
    clear ho ex hS
    cases hop : openB (s.drop k) with
    | none =>
      have hsc : scanB s = rs := by
        have := Heq.out
        rw [scan_none hop, List.append_nil] at this
        exact this.symm
      have hv : openV (s.drop k) = .tuple #[.string ⟨#[]⟩, .int .i64 0, .int .i64 4] := by rw [openV, hop]
      rw [hv]
      have Hsc := Lib.hid hsc
      clear hop hv hsc
      go_wp2_with fail
      try simp only [Exit.jump]
      go_ret2
      refine ⟨v, ?_, ?_⟩
      · rw [Hsc.out, Hke.out]; rfl
      · rw [Hsc.out]; exact h1
    | some b =>
      have hv : openV (s.drop k) = .tuple #[.string (bA' b), .int .i64 (8 + (b.length : Int)), .int .i64 0] := by rw [openV, hop]
      rw [hv]
      have hst := scan_step (by rw [Hke.out]; exact hk) (by rw [Hke.out]; exact Heq.out) (by rw [Hke.out]; exact hop)
      obtain ⟨t1, t2, t3⟩ := hst
      have hkb : goodB (rs ++ [b]) = k + (8 + b.length) := by rw [good_app, good_cons, Hke.out]; simp [goodB]
      rw [hkb] at t1
      have Ht2 := Lib.hid t2
      have Hkb := Lib.hid hkb
      have b3 : (b.length : Int) ≤ 1048576 := by omega
      have b4 : rs.length + 1 ≤ maxLen := by unfold maxLen; omega
      have b5 : (rs.length + 1) * 16 ≤ 140737488355328 := by omega
      have hbs : (bA' b).size = b.length := by simp [ByteArray.size]
      clear hop hv t2 hkb
      have h2 := (h1.alloc (.cells #[.string (bA' b)] 9)).swap
      go_wp2_with (at_builtin; refine wpList_append_row rfl strElem (.tmp 17) (.tmp 19) rfl v _ rs.length 1 (strB' rs) [.string (bA' b)] rfl rfl h2 (reads_new _ _ rfl (by omega)) rfl (by simp [Value.oneCell']) b4 b5 ?_; intro a' c' w2 h3; go_frame)
      go_step3
      have h4 : Sat B (row 9 1 (.slice a' (rs.length + 1) c') (rs ++ [b]).length (strB' (rs ++ [b])) :: L) w2 := by
        have e1 : strB' (rs ++ [b]) = strB' rs ++ [.string (bA' b)] := by simp [strB']
        rw [e1, List.length_append]
        exact h3.swap.drop
      have hnew : ScanAt B L s (rs ++ [b]) (.slice a' (rs.length + 1) c') w2 := ⟨h4, by rw [Hkb.out]; exact t1, Ht2.out⟩
      have hg2 : (k : Int) + (8 + (b.length : Int)) = (goodB (rs ++ [b]) : Int) := by rw [Hkb.out]; omega
      rw [hg2]
      refine ⟨rfl, ⟨rs ++ [b], .slice a' (rs.length + 1) c', _, _, _, _, _, _, _, _, _, _, _, _, _, _, _, _, _, _, _, _, _, _, hnew, rfl⟩, ?_⟩
      have e1 : goodB (rs ++ [b]) = k + (8 + b.length) := Hkb.out
      simp [goodOf, intOf, e1]
      omega
end
end Go.Proofs.YtdngjkjoahgelaaGreatDoor
