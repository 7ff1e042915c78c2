/-
  Script: the document's number and setup: contracts.
-/
import Derived.Test.YtjfnkglppldfnaaGreatDoorScrJ
import Derived.Test.YtjfnkglppldfnaaGreatDoorScrK
import Derived.Test.YtjfnkglppldfnaaGreatDoorScrM
import Derived.Test.YtjfnkglppldfnaaGreatDoorScr2
import Derived.Test.YtjfnkglppldfnaaGreatDoorSlStore
namespace Go.Proofs.YtjfnkglppldfnaaGreatDoor
open Go.RowKit
section
variable {B w : World} {L : List HP}
theorem num_bad {S : Bs} (c : UInt8) (hc : c ∈ S) (h : ¬ isDig c) : numberL S = -1 := by
  have : numL S = none := by rw [numL, if_neg]; intro e; exact h (e.2.1 c hc)
  unfold numberL
  split
  · rw [this]
  · rfl
set_option maxHeartbeats 4000000 in
set_option maxRecDepth 100000 in
theorem rnumber (s : ByteArray) (hs : s.size ≤ 4294967296) (w : World) :
    Calls Tryz.prog 62 #[.string s] w fun e w' => e = .returned (.int .i64 (numberL s.data.toList)) ∧ w' = w := by
  have hsl : s.data.toList.length = s.size := by rw [Array.length_toList]; rfl
  obtain ⟨S, hS⟩ : ∃ S, s.data.toList = S := ⟨_, rfl⟩
  have Hsl := Lib.hid (And.intro hS hsl)
  have hSl : S.length = s.size := by rw [← hS]; exact hsl
  rw [hS]
  clear hS hsl
  by_cases h0 : s.size = 0
  · have hn : numberL S = -1 := by
      have : S = [] := List.eq_nil_of_length_eq_zero (by omega)
      rw [this]; rfl
    have Hn := Lib.hid hn
    have h1 : (s.size : Int) < 1 := by omega
    clear hn hSl
    go_enter Tryz.func62, Tryz.ntmps62
    go_wp2_with fail
    go_ret
    exact ⟨by rw [Hn.out]; rfl, rfl⟩
  by_cases h10 : 10 < s.size
  · have hn : numberL S = -1 := by unfold numberL; rw [if_neg (by omega)]
    have Hn := Lib.hid hn
    have h1 : ¬ (s.size : Int) < 1 := by omega
    have h2 : (10 : Int) < s.size := by omega
    clear hn hSl
    go_enter Tryz.func62, Tryz.ntmps62
    go_wp2_with fail
    go_ret
    exact ⟨by rw [Hn.out]; rfl, rfl⟩
  have h1 : ¬ (s.size : Int) < 1 := by omega
  have h2 : ¬ (10 : Int) < s.size := by omega
  have hp0 : 0 < s.size := by omega
  obtain ⟨x, hx⟩ : ∃ x, s[0] = x := ⟨_, rfl⟩
  have hx0 : S[0]'(by omega) = x := by
    rw [← hx]
    have e := Hsl.out.1
    subst e
    simp [ByteArray.getElem_eq_getElem_data]
  by_cases hz : x = 48 ∧ 1 < s.size
  · obtain ⟨rfl, hz2⟩ := hz
    have hn : numberL S = -1 := by
      have : numL S = none := by
        rw [numL, if_neg]
        rintro ⟨_, _, h | h⟩
        · omega
        · apply h; rw [List.head?_eq_getElem?, List.getElem?_eq_getElem (by omega), hx0]
      unfold numberL; rw [this]; split <;> rfl
    have Hn := Lib.hid hn
    have hz3 : (1 : Int) < s.size := by omega
    clear hn hSl hx0
    go_enter Tryz.func62, Tryz.ntmps62
    go_wp2_with fail
    go_ret
    exact ⟨by rw [Hn.out]; rfl, rfl⟩
  · have hlead : S.length = 1 ∨ S.head? ≠ some 48 := by
      by_cases hl : 1 < s.size
      · right
        rw [List.head?_eq_getElem?, List.getElem?_eq_getElem (by omega), hx0]
        intro e; cases e; exact hz ⟨rfl, hl⟩
      · left; omega
    have HS := Lib.hid (And.intro hSl hlead)
    have hcase : (1 : Int) < s.size → (x.toNat : Int) = 48 → False := fun h3 h4 => hz ⟨UInt8.toNat_inj.1 (by have : (48 : UInt8).toNat = 48 := rfl; omega), by omega⟩
    have Hcase := Lib.hid hcase
    clear hSl hlead hx0 hcase hz
    rcases Classical.em ((x.toNat : Int) = 48) with hx48 | hx48
    all_goals
      (first | have hz3 : ¬ (1 : Int) < s.size := fun h3 => Hcase.out h3 hx48 | skip)
      go_enter Tryz.func62, Tryz.ntmps62
      go_wp2_with fail
      clear hx48 h1
      (try clear hz3)
      go_loopg [3, 4] (s.size + 1) (fun gh v3 v4 wr => ∃ (i n : Nat), s.size + 1 ≤ i + gh ∧ i ≤ s.size ∧ n ≤ 9999999999 ∧ v3 = .int .i64 n ∧ v4 = .int .i64 i ∧ wr = w ∧ Hid (n = valL (S.take i) ∧ ∀ c ∈ S.take i, isDig c))
      case atStart => exact ⟨0, 0, by omega, by omega, by omega, rfl, rfl, rfl, Lib.hid ⟨rfl, by simp⟩⟩
      case round =>
        obtain ⟨i, n, hg1, hi, hn, rfl, rfl, rfl, Hv⟩ := hrel
        by_cases hlt : i < s.size
        · have hltS : i < S.length := by have := HS.out.1; omega
          obtain ⟨y, hy⟩ : ∃ y, s[i] = y := ⟨_, rfl⟩
          have hyS : S[i] = y := by
            rw [← hy]
            have e := Hsl.out.1
            subst e
            simp [ByteArray.getElem_eq_getElem_data]
          have hmem : y ∈ S := by rw [← hyS]; exact List.getElem_mem hltS
          have Hy := Lib.hid (And.intro hyS hmem)
          clear hyS hmem
          by_cases hd1 : y.toNat < 48
          · have hd1' : (y.toNat : Int) < 48 := by omega
            have hbad : numberL S = -1 := num_bad y Hy.out.2 (fun h => by have := h.1; omega)
            have Hbad := Lib.hid hbad
            clear hbad
            go_wp2_with fail
            go_ret
            exact ⟨by rw [Hbad.out]; rfl, rfl⟩
          · have hd1' : ¬ (y.toNat : Int) < 48 := by omega
            by_cases hd2 : 57 < y.toNat
            · have hd2' : (57 : Int) < y.toNat := by omega
              have hbad : numberL S = -1 := num_bad y Hy.out.2 (fun h => by have := h.2; omega)
              have Hbad := Lib.hid hbad
              clear hbad
              go_wp2_with fail
              go_ret
              exact ⟨by rw [Hbad.out]; rfl, rfl⟩
            · have hd2' : ¬ (57 : Int) < y.toNat := by omega
              obtain ⟨d, hd⟩ : ∃ d, y.toNat - 48 = d := ⟨_, rfl⟩
              have hd9 : d ≤ 9 := by omega
              have hyd : (y.toNat : Int) - 48 = d := by omega
              have hw0 : IntKind.u8.wrap (d : Int) = d := u8_in d (by omega)
              have hw1 : IntKind.i64.wrap (10 * (n : Int)) = 10 * n := IntWalk.i64_in _ (by omega)
              have hw2 : IntKind.i64.wrap (10 * (n : Int) + d) = 10 * n + d := IntWalk.i64_in _ (by omega)
              have hw3 : IntKind.i64.wrap (d : Int) = d := IntWalk.i64_in _ (by omega)
              have hdig : isDig y := ⟨by omega, by omega⟩
              have htk : S.take (i + 1) = S.take i ++ [y] := by rw [List.take_succ_eq_append_getElem hltS, Hy.out.1]
              have hnew : 10 * n + d = valL (S.take (i + 1)) ∧ ∀ c ∈ S.take (i + 1), isDig c := by
                rw [htk, valL_append, ← Hv.out.1, hd]
                refine ⟨rfl, fun c hc => ?_⟩
                rcases List.mem_append.1 hc with hc | hc
                · exact Hv.out.2 c hc
                · rw [List.mem_singleton.1 hc]; exact hdig
              have hb : 10 * n + d ≤ 9999999999 := by
                rw [hnew.1]; exact val_small _ (by rw [List.length_take]; omega) hnew.2
              have Hnew := Lib.hid hnew
              clear hnew htk hdig hd
              go_wp2_with fail
              go_roundg (gk - 1)
              case measure => omega
              case rel => exact ⟨i + 1, 10 * n + d, by omega, by omega, hb, by go_num, by go_num, rfl, Hnew⟩
        · have hie : i = s.size := by omega
          have hfin : numberL S = n := by
            have h1 := Hv.out
            rw [List.take_of_length_le (by rw [HS.out.1]; omega)] at h1
            have : numL S = some (valL S) := by
              rw [numL, if_pos ⟨fun e => by have := HS.out.1; rw [e] at this; simp at this; omega, h1.2, HS.out.2⟩]
            unfold numberL
            rw [if_pos (by rw [HS.out.1]; omega), this, ← h1.1]
          have Hfin := Lib.hid hfin
          have hlt' : ¬ (i : Int) < s.size := by omega
          clear hfin
          go_wp2_with fail
          go_ret
          exact ⟨by rw [Hfin.out]; rfl, rfl⟩
theorem rcell_at {e : TypeId} {n c g off : Nat} {xs : List Value} (h : Sat B (row e 1 (.slice (some ⟨g, off, none⟩) n c) n xs :: L) w) (j : Nat) (v : Value) (hv : xs[j]? = some v) : w.cell? ⟨g, off + j, none⟩ = some v := by
  rcases h.row_form with ⟨hx, _⟩ | ⟨g', off', cap, hx, _, _, _, _, hc, _⟩
  · cases hx
  · cases hx; exact hc j v hv
/-- Ten numbers, the first of them nothing. -/
def arrT (vs : List Int) : List Int := 0 :: (vs ++ List.replicate (9 - vs.length) 0)
theorem arrT_at (vs : List Int) (k : Nat) (hk : k < 10) : (ints64 (arrT vs)).toArray[k]? = some (.int .i64 ((arrT vs).getD k 0)) := by
  have hl : k < (arrT vs).length := by simp [arrT]; omega
  simp [ints64, hl]
theorem arrT_set (vs : List Int) (u : Int) (h : vs.length < 9) : (ints64 (arrT vs)).toArray.setIfInBounds (vs.length + 1) (.int .i64 u) = (ints64 (arrT (vs ++ [u]))).toArray := by
  have e : 9 - vs.length = (9 - (vs ++ [u]).length) + 1 := by simp; omega
  apply Array.ext'
  simp only [Array.toList_setIfInBounds, ints64, arrT, e, List.replicate_succ, List.map_append, List.map_cons, List.set_cons_succ]
  rw [List.set_append_right _ _ (by simp)]
  simp
end
end Go.Proofs.YtjfnkglppldfnaaGreatDoor
