/-
  NetOrder: the walk.
-/
import Derived.Test.YtgccdndlpjbkhaaNet3
import Derived.Deep.LoopGhost
import Derived.Lib.Hide
namespace Go.Proofs.Ytgccdndlpjbkhaa
open Go.RowKit

/-- The first packets that are sent. -/
def order (k : Nat) : List Pk := (List.range k).map fun j => pk (UInt8.ofNat j)
theorem order_len (k : Nat) : (order k).length = k := by simp [order]
theorem order_succ (k : Nat) : order (k + 1) = order k ++ [pk (UInt8.ofNat k)] := by simp [order, List.range_succ]

/-- Packets of one letter each, from a number on, in rising order. -/
def rising : Int → List Pk → Prop
  | _, [] => True
  | m, p :: ps => ∃ u : UInt8, p = pk u ∧ m < u.toNat ∧ rising u.toNat ps

theorem rising_mono {ps : List Pk} {m m' : Int} (hm : m' ≤ m) (h : rising m ps) : rising m' ps := by
  cases ps with
  | nil => trivial
  | cons p ps => obtain ⟨u, rfl, h1, h2⟩ := h; exact ⟨u, rfl, by omega, h2⟩
theorem rising_erase : ∀ (ps : List Pk) (k : Nat) (m : Int), rising m ps → rising m (ps.eraseIdx k)
  | [], _, _, h => by simpa using h
  | p :: ps, 0, m, h => by
    obtain ⟨u, rfl, h1, h2⟩ := h
    simpa using rising_mono (by omega) h2
  | p :: ps, k + 1, m, h => by
    obtain ⟨u, rfl, h1, h2⟩ := h
    exact ⟨u, rfl, h1, rising_erase ps k _ h2⟩
theorem rising_order : ∀ (n k : Nat) (m : Int), k + n ≤ 256 → m < k → rising m ((List.range' k n).map fun j => pk (UInt8.ofNat j))
  | 0, _, _, _, _ => trivial
  | n + 1, k, m, h, hm => by
    rw [List.range'_succ, List.map_cons]
    have e : (UInt8.ofNat k).toNat = k := by rw [UInt8.toNat_ofNat']; omega
    refine ⟨_, rfl, by rw [e]; exact hm, ?_⟩
    rw [e]
    exact rising_order n (k + 1) k (by omega) (by omega)
theorem rising_100 : rising (-1) (order 100) := by
  have := rising_order 100 0 (-1) (by omega) (by omega)
  rw [← List.range_eq_range'] at this
  exact this

set_option maxHeartbeats 1000000 in
theorem order_law (B : World) (la : Option Addr) (lc n : Nat) (bs : List UInt8) (hr : reads B (.slice la n lc) n (u8s bs)) (hn : bs.length = n) :
    Calls Try.prog 3 #[.slice la n lc] B fun e w' => e = .returned (.bool true) ∧ Below B.heap.size B w' := by
  go_enter Try.func3, Try.ntmps3
  go_wp2_with fail
  refine (new_net (Sat.start B)).mono ?_
  rintro e w1 ⟨b, rfl, h1⟩
  go_wp2_with fail
  go_loopg [4] 100 (fun g i wr => ∃ k : Nat, k + g ≤ 100 ∧ 100 ≤ k + g ∧ i = .int .i64 k ∧ Sat B [net b (order k)] wr)
  case atStart => exact ⟨0, by omega, by omega, rfl, h1⟩
  case round =>
    obtain ⟨k, hg1, hg2, rfl, hs⟩ := hrel
    by_cases hlt : k < 100
    · go_wp2_with fail
      refine (packet_int (u := UInt8.ofNat k) (by rw [UInt8.toNat_ofNat']; omega) hs).mono ?_
      rintro e w2 ⟨rfl, h2⟩
      go_wp2_with fail
      refine (send_net ((h2.alloc _).swap) _ _ 1 [pk (UInt8.ofNat k)] (reads_new _ _ rfl (by omega)) rfl (by rw [order_len]; omega)).mono ?_
      rintro e w3 ⟨rfl, h3⟩
      go_wp2_with fail
      go_roundg (gk - 1)
      case measure => omega
      case rel =>
        refine ⟨k + 1, by omega, by omega, by go_num, ?_⟩
        rw [order_succ]
        rw [List.take_of_length_le (by simp [order_len]; omega)] at h3
        exact h3.swap.drop
    · go_wp2_with fail
      obtain rfl : k = 100 := by omega
      clear hlt hg1 hg2
      go_loopg [5] n (fun g i wr => ∃ (j : Nat) (ps : List Pk), j + g ≤ n ∧ n ≤ j + g ∧ ps.length ≤ 100 ∧ rising (-1) ps ∧ i = .int .i64 j ∧ Sat B [net b ps] wr)
      case atStart => exact ⟨0, order 100, by omega, by omega, by rw [order_len]; omega, rising_100, rfl, hs⟩
      case round =>
        obtain ⟨j, ps, hg1, hg2, hl, hris, rfl, hs⟩ := hrel
        have Hris := Lib.hid hris
        clear hris
        by_cases hjn : j < n ∧ j < 100
        · obtain ⟨hj1, hj2⟩ := hjn
          obtain ⟨ad, c', hv, h0, _, _, hc⟩ := hs.reads hr
          cases hv
          obtain ⟨g, off, rfl, hcell⟩ := hc j (.int .u8 (bs[j]'(by omega)).toNat) (by simp [u8s, List.getElem?_eq_getElem (show j < bs.length by omega)])
          clear hc h0
          obtain ⟨z, hz⟩ : ∃ z : Nat, (bs[j]'(by omega)).toNat = z := ⟨_, rfl⟩
          have hz2 : z < 256 := by rw [← hz]; exact (bs[j]'(by omega)).toNat_lt
          rw [hz] at hcell
          clear hz
          go_wp2_with fail
          refine (lose_int hs _ (by omega) (by omega)).mono ?_
          rintro e w2 ⟨rfl, h2⟩
          go_wp2_with fail
          go_roundg (gk - 1)
          case measure => omega
          case rel =>
            exact ⟨j + 1, _, by omega, by omega, Nat.le_trans (List.length_eraseIdx_le _ _) hl, rising_erase _ _ _ Hris.out, by go_num, h2⟩
        · by_cases hj1 : j < n
          all_goals
            have hj2 : j < n → ¬ j < 100 := fun h1 h2 => hjn ⟨h1, h2⟩
            clear hjn
            go_wp2_with fail
            go_loopg [6] ps.length (fun g last wr => ∃ (qs : List Pk) (m : Int), qs.length ≤ g ∧ g ≤ 100 ∧ -1 ≤ m ∧ m ≤ 255 ∧ rising m qs ∧ last = .int .i64 m ∧ Sat B [net b qs] wr)
            case atStart => exact ⟨ps, -1, Nat.le_refl _, hl, by omega, by omega, Hris.out, rfl, hs⟩
            case round =>
              obtain ⟨qs, m, hg1, hg2, hm1, hm2, hris, rfl, hs⟩ := hrel
              have Hris := Lib.hid hris
              clear hris
              cases qs with
              | nil =>
                go_wp2_with fail
                refine (len_net hs).mono ?_
                rintro e w2 ⟨rfl, rfl⟩
                go_wp2_with fail
                refine (works_net hs).mono ?_
                rintro e w2 ⟨rfl, h2⟩
                go_wp2_with fail
                go_ret
                exact ⟨rfl, h2.below⟩
              | cons p qs =>
                obtain ⟨u, rfl, hmu, hris'⟩ := Hris.out
                have Hris' := Lib.hid hris'
                clear hris' Hris
                have hu : u.toNat < 256 := u.toNat_lt
                have e0 : ((⟨#[u]⟩ : ByteArray)[0]'(by decide : 0 < 1)).toNat = u.toNat := rfl
                have hlen : (pk u :: qs).length = qs.length + 1 := rfl
                have hle : (pk u :: qs).length ≤ 256 := by omega
                rw [hlen] at hg1
                clear hlen
                go_wp2_with fail
                refine (len_net hs).mono ?_
                rintro e w2 ⟨rfl, rfl⟩
                go_wp2_with fail
                refine (take_net hs 0 (by simp) hle).mono ?_
                rintro e w2 ⟨rfl, h2⟩
                go_wp2_with fail
                go_roundg (gk - 1)
                case measure => omega
                case rel => exact ⟨qs, u.toNat, by omega, by omega, by omega, by omega, Hris'.out, by rfl, (h2.alloc _).drop⟩
#print axioms order_law
end Go.Proofs.Ytgccdndlpjbkhaa
