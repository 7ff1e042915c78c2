/-
  seal: table, Sum: contracts.
-/
import Derived.Test.YtmjfoggnkcjjjaaGreatDoorSlB
import Derived.Test.YtmjfoggnkcjjjaaGreatDoorWlP
import Derived.Test.YtmjfoggnkcjjjaaGreatDoorWlF
import Derived.Test.YtmjfoggnkcjjjaaGreatDoorProg
import Derived.Lib.Hide
import Derived.Deep.QuietTactic
import Derived.BigQuiet
import Derived.Deep.LoopGhost
import Derived.Laws.BitsAllLaws
namespace Go.Proofs.YtmjfoggnkcjjjaaGreatDoor
set_option linter.all false
set_option maxRecDepth 100000
set_option maxHeartbeats 1000000
open Go.RowKit
def itN : Nat → Nat → Nat
  | 0, x => x
  | r + 1, x => stepN (itN r x)
theorem itN_lt {x : Nat} (h : x < 4294967296) : ∀ r, itN r x < 4294967296
  | 0 => h
  | r + 1 => stepN_lt (itN_lt h r)
theorem itN_tab (x : Nat) : itN 8 x = tabN x := rfl
theorem and1_u32 (x : Nat) (h : x < 4294967296) : (bits .and .u32 (x : Int) 1 == 1) = decide (x % 2 = 1) := by
  have := u32_and_nat x 1 h (by omega)
  rw [show (1 : Int) = ((1 : Nat) : Int) from rfl, this, Nat.and_one_is_mod]
  by_cases hx : x % 2 = 1
  · simp [hx]
  · have : x % 2 = 0 := by omega
    simp [this]
theorem step_odd {x : Nat} (h : x < 4294967296) (h1 : x % 2 = 1) : (stepN x : Int) = bits .xor .u32 ((x : Int) / 2) 3988292384 := by
  have e : (x : Int) / 2 = ((x / 2 : Nat) : Int) := by omega
  rw [e, show (3988292384 : Int) = ((3988292384 : Nat) : Int) from rfl, u32_xor_nat _ _ (by omega) (by omega), stepN, if_pos h1, Nat.shiftRight_eq_div_pow]
theorem step_even {x : Nat} (h1 : x % 2 ≠ 1) : (stepN x : Int) = (x : Int) / 2 := by
  rw [stepN, if_neg h1, Nat.shiftRight_eq_div_pow]; omega
theorem num_u32 {a b : Int} (h : a = b) : Value.int .u32 a = .int .u32 b := by rw [h]
section
variable {B w : World} {L : List HP}
/-- 'table'. -/
theorem psTable (h : Sat B L w) : Calls Tryz.prog 95 #[] w fun y w' => ∃ b cs, y = .returned (.pointer (some ⟨b, 0, none⟩)) ∧ (∀ j, j < 256 → cs[j]? = some (.int .u32 (tabN j : Int))) ∧ Sat B (pt b (.cells cs 201) :: L) w' := by
  go_enter Tryz.func95, Tryz.ntmps95
  go_wp2_with fail
  have hz : Tryz.zeroCells201.size = 256 := by kernel_rfl
  have h1 := h.alloc' (.cells Tryz.zeroCells201 201) (n := w.heap.size) rfl
  generalize w.alloc (.cells Tryz.zeroCells201 201) = w1 at h1 ⊢
  generalize Tryz.zeroCells201 = zc at h1 hz
  generalize w.heap.size = b at h1 ⊢
  have Hz := Lib.hid hz
  clear h hz
  go_loopg [4] 257 (fun gh v4 wr => ∃ (k : Nat) (cs : Array Value), k ≤ 256 ∧ 257 ≤ k + gh ∧ cs.size = 256 ∧ (∀ j, j < k → cs[j]? = some (.int .u32 (tabN j : Int))) ∧ v4 = .int .i64 (k : Int) ∧ Sat B (pt b (.cells cs 201) :: L) wr)
  case atStart => exact ⟨0, zc, by omega, by omega, Hz.out, fun j hj => by omega, rfl, h1⟩
  case round =>
    obtain ⟨k, cs, hk1, hk2, hsz, hcs, rfl, hS⟩ := hrel
    have Hs := Lib.hid hsz
    have Hc := Lib.hid hcs
    clear hsz hcs h1
    by_cases hlt : k < 256
    · have b1 : (k : Int) < 256 := by omega
      go_wp2_with fail
      obtain ⟨gO, rfl⟩ : ∃ gO, gO = gk := ⟨_, rfl⟩
      obtain ⟨w0, hw0⟩ : ∃ w0, w0 = wr := ⟨_, rfl⟩
      have HW := Lib.hid hw0
      clear hw0
      go_loopg [3, 9] 9 (fun gh v3 v9 wz => ∃ r : Nat, r ≤ 8 ∧ 9 ≤ r + gh ∧ v3 = .int .u32 (itN r k : Int) ∧ v9 = .int .i64 (r : Int) ∧ wz = w0)
      case atStart => exact ⟨0, by omega, by omega, rfl, rfl, HW.out.symm⟩
      case round =>
        obtain ⟨r, hr1, hr2, rfl, rfl, rfl⟩ := hrel
        obtain rfl := HW.out
        have hx := itN_lt (show k < 4294967296 by omega) r
        obtain ⟨x, hxe⟩ : ∃ x, itN r k = x := ⟨_, rfl⟩
        rw [hxe] at hx ⊢
        have Hx := Lib.hid hxe
        have x1 : (x : Int) ≤ 4294967295 := by omega
        clear hxe
        by_cases hr : r < 8
        · have b2 : (r : Int) < 8 := by omega
          have ha := and1_u32 x hx
          have hsx : itN (r + 1) k = stepN x := by rw [← Hx.out]; rfl
          by_cases ho : x % 2 = 1
          · have hb : (bits .and .u32 (x : Int) 1 == 1) = true := by rw [ha]; simpa using ho
            have He := Lib.hid (show (itN (r + 1) k : Int) = bits .xor .u32 ((x : Int) / 2) 3988292384 by rw [hsx]; exact step_odd hx ho)
            clear ha hsx ho
            go_wp2_with fail
            go_roundg (gk - 1)
            case measure => omega
            case rel => exact ⟨r + 1, by omega, by omega, num_u32 He.out.symm, by go_num, rfl⟩
          · have hb : (bits .and .u32 (x : Int) 1 == 1) = false := by rw [ha]; simpa using ho
            have He := Lib.hid (show (itN (r + 1) k : Int) = (x : Int) / 2 by rw [hsx]; exact step_even ho)
            clear ha hsx ho
            go_wp2_with fail
            go_roundg (gk - 1)
            case measure => omega
            case rel => exact ⟨r + 1, by omega, by omega, num_u32 He.out.symm, by go_num, rfl⟩
        · obtain rfl : r = 8 := by omega
          have b2 : ¬ ((8 : Nat) : Int) < 8 := by omega
          have c1 : ∃ v, wr.cell? ⟨b, k, none⟩ = some v := ⟨_, (hS.pt_cell k).trans (Array.getElem?_eq_getElem (by rw [Hs.out]; exact hlt))⟩
          obtain ⟨v, c1⟩ := c1
          have f1 := hS.pt_free k
          go_wp2_with fail
          have h2 := hS.set (j := k) (.int .u32 (x : Int))
          go_roundg (gO - 1)
          case measure => omega
          case rel =>
            refine ⟨k + 1, cs.setIfInBounds k (.int .u32 (x : Int)), by omega, by omega, by rw [Array.size_setIfInBounds]; exact Hs.out, fun j hj => ?_, by go_num, h2⟩
            rw [Array.getElem?_setIfInBounds]
            by_cases hjk : k = j
            · subst hjk
              rw [if_pos rfl, if_pos (by rw [Hs.out]; exact hlt), ← itN_tab, Hx.out]
            · rw [if_neg hjk]; exact Hc.out j (by omega)
    · obtain rfl : k = 256 := by omega
      have b1 : ¬ ((256 : Nat) : Int) < 256 := by omega
      go_wp2_with fail
      go_ret
      exact ⟨b, rfl, cs, Hc.out, hS⟩
theorem num_u8 {a b : Int} (h : a = b) : Value.int .u8 a = .int .u8 b := by rw [h]
/-- A register takes a byte. -/
theorem reg_eq {x : Nat} (hx : x < 4294967296) (c : UInt8) : (regN x c : Int) = bits .xor .u32 ((x : Int) / 256) ((tabN ((x % 256) ^^^ c.toNat) : Nat) : Int) := by
  have e : (x : Int) / 256 = ((x / 256 : Nat) : Int) := by omega
  rw [e, u32_xor_nat _ _ (by omega) (tabN_lt (Nat.lt_trans (low_lt x c) (by omega))), regN, Nat.shiftRight_eq_div_pow]
theorem wrap_u8 (z : Nat) : IntKind.u8.wrap (z : Int) = ((z % 256 : Nat) : Int) := by
  show ((z : Int)) % 256 = _
  omega
theorem low_eq (x : Nat) (c : UInt8) : bits .xor .u8 (((x % 256 : Nat)) : Int) (c.toNat : Int) = (((x % 256) ^^^ c.toNat : Nat) : Int) := u8_xor_nat _ _ (by omega) c.toNat_lt
/-- 'Sum' of two parts. -/
theorem psSum (h : Sat B L w) (v : Value) (a b : Bt) (hr : ∀ w', Sat B L w' → reads w' v 2 [.string (bA' a), .string (bA' b)]) (ha : a.length ≤ 9223372036854775807) (hb : b.length ≤ 9223372036854775807) :
    Calls Tryz.prog 52 #[v] w fun y w' => y = .returned (.int .u32 (sumN (a ++ b) : Int)) ∧ Sat B L w' := by
  have ht := psTable h
  have Hr := Lib.hid hr
  obtain ⟨ad, cc, rfl⟩ : ∃ ad cc, v = .slice ad 2 cc := by obtain ⟨ad, cc, e, _⟩ := hr w h; exact ⟨ad, cc, e⟩
  clear hr h
  go_enter Tryz.func52, Tryz.ntmps52
  go_wp2_with fail
  refine ht.mono ?_
  rintro y w1 ⟨tb, cs, rfl, hcs, h1⟩
  have Hcs := Lib.hid hcs
  clear hcs ht
  go_wp2_with fail
  go_loopg [4, 11] 3 (fun gh v4 v11 wr => ∃ k : Nat, k ≤ 2 ∧ 3 ≤ k + gh ∧ v4 = .int .u32 ((([a, b].take k).flatten.foldl regN 4294967295 : Nat) : Int) ∧ v11 = .int .i64 (k : Int) ∧ Sat B (pt tb (.cells cs 201) :: L) wr)
  case atStart => exact ⟨0, by omega, by omega, rfl, rfl, h1⟩
  case round =>
    obtain ⟨k, hk1, hk2, rfl, rfl, hS⟩ := hrel
    clear h1
    have hx := fold_lt ([a, b].take k).flatten (show 4294967295 < 4294967296 by omega)
    obtain ⟨x, hxe⟩ : ∃ x, ([a, b].take k).flatten.foldl regN 4294967295 = x := ⟨_, rfl⟩
    rw [hxe] at hx ⊢
    have Hx := Lib.hid hxe
    clear hxe
    by_cases hlt : k < 2
    · have b1 : (k : Int) < 2 := by omega
      obtain ⟨t, ht⟩ : ∃ t, [a, b][k]? = some t := ⟨_, List.getElem?_eq_getElem hlt⟩
      have htl : t.length ≤ 9223372036854775807 := by
        have := List.mem_of_getElem? ht
        simp at this
        rcases this with rfl | rfl
        · exact ha
        · exact hb
      obtain ⟨g, o, e0, c0⟩ : ∃ g o, ad = some ⟨g, o, none⟩ ∧ wr.cell? ⟨g, o + k, none⟩ = some (.string (bA' t)) := by
        obtain ⟨ad', cc', e, _, _, _, hc⟩ := Hr.out wr hS.drop
        cases e
        exact hc k _ (by
          have : k = 0 ∨ k = 1 := by omega
          rcases this with rfl | rfl <;> (simp at ht; subst ht; rfl))
      subst e0
      have Ht := Lib.hid ht
      have hts : (bA' t).size = t.length := by simp [ByteArray.size]
      clear ht
      go_wp2_with fail
      obtain ⟨gO, rfl⟩ : ∃ gO, gO = gk := ⟨_, rfl⟩
      go_loopg [4, 17] (t.length + 1) (fun gh v4 v17 wz => ∃ i : Nat, i ≤ t.length ∧ t.length + 1 ≤ i + gh ∧ v4 = .int .u32 (((t.take i).foldl regN x : Nat) : Int) ∧ v17 = .int .i64 (i : Int) ∧ Sat B (pt tb (.cells cs 201) :: L) wz)
      case atStart => exact ⟨0, by omega, by omega, rfl, rfl, hS⟩
      case round =>
        obtain ⟨i, hi1, hi2, rfl, rfl, hS2⟩ := hrel
        have hz := fold_lt (t.take i) hx
        obtain ⟨z, hze⟩ : ∃ z, (t.take i).foldl regN x = z := ⟨_, rfl⟩
        rw [hze] at hz ⊢
        have Hz := Lib.hid hze
        have z1 : (z : Int) ≤ 4294967295 := by omega
        clear hze hS
        by_cases hlt2 : i < t.length
        · have b2 : (i : Int) < (t.length : Int) := by omega
          have hlt3 : i < (bA' t).size := by rw [hts]; exact hlt2
          obtain ⟨c, hc⟩ : ∃ c, t[i]? = some c := ⟨_, List.getElem?_eq_getElem hlt2⟩
          have hci : (bA' t)[i]'hlt3 = c := by
            rw [List.getElem?_eq_getElem hlt2] at hc
            have := Option.some.inj hc
            rw [← this]
            simp [ByteArray.getElem_eq_getElem_data]
          have hm := low_lt z c
          have hle : bits .xor .u8 (IntKind.u8.wrap (z : Int)) (((bA' t)[i]'hlt3).toNat : Int) = (((z % 256) ^^^ c.toNat : Nat) : Int) := by rw [wrap_u8, hci]; exact low_eq z c
          have Hci := Lib.hid hc
          clear hci hc
          have hre := reg_eq hz c
          obtain ⟨m, hme⟩ : ∃ m, (z % 256) ^^^ c.toNat = m := ⟨_, rfl⟩
          rw [hme] at hm hle hre
          have c1 := (hS2.pt_cell m).trans (Hcs.out m hm)
          have m1 : (m : Int) < 256 := by omega
          clear hme
          have Hre := Lib.hid hre
          clear hre
          go_wp2_with fail
          go_quiet (fail)
          go_wp2_with fail
          go_roundg (gk - 1)
          case measure => omega
          case rel =>
            refine ⟨i + 1, by omega, by omega, num_u32 ?_, by go_num, hS2.drewN _⟩
            have e : t.take (i + 1) = t.take i ++ [c] := by rw [List.take_succ, Hci.out]; rfl
            rw [e, List.foldl_append, Hz.out]
            exact Hre.out.symm
        · obtain rfl : i = t.length := by omega
          have b2 : ¬ (t.length : Int) < (t.length : Int) := by omega
          go_wp2_with fail
          go_roundg (gO - 1)
          case measure => omega
          case rel =>
            refine ⟨k + 1, by omega, by omega, num_u32 ?_, by go_num, hS2⟩
            have e : [a, b].take (k + 1) = [a, b].take k ++ [t] := by rw [List.take_succ, Ht.out]; rfl
            rw [e, List.flatten_append, List.foldl_append, Hx.out, ← Hz.out, List.take_length]
            simp
    · obtain rfl : k = 2 := by omega
      have b1 : ¬ ((2 : Nat) : Int) < 2 := by omega
      have hfin : (sumN (a ++ b) : Int) = bits .xor .u32 4294967295 (x : Int) := by
        have e : a ++ b = ([a, b].take 2).flatten := by simp
        rw [sumN, e, Hx.out]
        exact (u32_xor_nat 4294967295 x (by omega) hx).symm
      have Hf := Lib.hid hfin
      clear hfin
      go_wp2_with fail
      go_ret
      exact ⟨by rw [Hf.out]; rfl, hS.drop⟩
end
end Go.Proofs.YtmjfoggnkcjjjaaGreatDoor
