/-
  Script: the document's split, Unhex, number: contracts.
-/
import Derived.Test.YtcjindifdghpgaaGreatDoorScr8
import Derived.Test.YtcjindifdghpgaaGreatDoorScrS
namespace Go.Proofs.YtcjindifdghpgaaGreatDoor
open Go.RowKit
section
variable {B w : World} {L : List HP}
theorem string_elem : Elem Tryz.prog 60 9 (.string ⟨#[]⟩) 1 16 :=
  ⟨Tryz.underlying60, by kernel_rfl, rfl, by decide, by simp [Value.cells, Value.oneCell']⟩
theorem ext_list (s : ByteArray) (p i : Nat) : (s.extract p i).data.toList = (s.data.toList.drop p).take (i - p) := by
  simp [ByteArray.data_extract, Array.toList_extract, List.extract_eq_take_drop]
theorem ext_val (s : ByteArray) (p i : Nat) : Value.string (s.extract p i) = .string ⟨((s.data.toList.drop p).take (i - p)).toArray⟩ := by
  rw [← ext_list]
/-- A piece that ends at the byte. -/
theorem spl_cut (c : UInt8) (S : Bs) (p i : Nat) (hp : p ≤ i) (hi : i < S.length) (hc : S[i] = c) (hn : c ∉ (S.drop p).take (i - p)) : splL c (S.drop p) = (S.drop p).take (i - p) :: splL c (S.drop (i + 1)) := by
  have e : S.drop p = (S.drop p).take (i - p) ++ c :: S.drop (i + 1) := by
    have h1 : S.drop p = (S.drop p).take (i - p) ++ (S.drop p).drop (i - p) := (List.take_append_drop _ _).symm
    have h2 : (S.drop p).drop (i - p) = c :: S.drop (i + 1) := by
      rw [List.drop_drop, show p + (i - p) = i by omega, List.drop_eq_getElem_cons hi, hc]
    rw [h2] at h1
    exact h1
  conv => lhs; rw [e]
  exact splL_hit c _ _ hn
theorem spl_on (c : UInt8) (S : Bs) (p i : Nat) (hp : p ≤ i) (hi : i < S.length) (hc : S[i] ≠ c) (hn : c ∉ (S.drop p).take (i - p)) : c ∉ (S.drop p).take (i + 1 - p) := by
  rw [show i + 1 - p = (i - p) + 1 by omega, List.take_succ_eq_append_getElem (by rw [List.length_drop]; omega)]
  intro h
  rcases List.mem_append.1 h with h | h
  · exact hn h
  · have := List.mem_singleton.1 h
    rw [List.getElem_drop] at this
    simp only [show p + (i - p) = i by omega] at this
    exact hc this.symm
theorem spl_end (c : UInt8) (S : Bs) (p : Nat) (hn : c ∉ (S.drop p).take (S.length - p)) : splL c (S.drop p) = [(S.drop p).take (S.length - p)] := by
  have e : (S.drop p).take (S.length - p) = S.drop p := List.take_of_length_le (by rw [List.length_drop]; exact Nat.le_refl _)
  rw [e] at hn ⊢
  exact splL_miss c _ hn
theorem strL_append (a b : List Bs) : strL (a ++ b) = strL a ++ strL b := by simp [strL]
/-- What split answers. -/
def splRes (ps : List Bs) (B : World) (L : List HP) (y : Ending) (w' : World) : Prop :=
  ∃ a n cc, ps.length = n ∧ y = .returned (.slice a n cc) ∧ Sat B (row 9 1 (.slice a n cc) n (strL ps) :: L) w'
set_option maxHeartbeats 4000000 in
set_option maxRecDepth 100000 in
theorem rsplit (s : ByteArray) (c : UInt8) (hs : s.size ≤ 4294967296) (h : Sat B L w) :
    Calls Tryz.prog 49 #[.string s, .int .u8 c.toNat] w (splRes (splL c s.data.toList) B L) := by
  have hsl : s.data.toList.length = s.size := by rw [Array.length_toList]; rfl
  obtain ⟨S, hS⟩ : ∃ S, s.data.toList = S := ⟨_, rfl⟩
  have Hsl := Lib.hid (And.intro hS hsl)
  rw [hS]
  clear hS hsl
  go_enter Tryz.func49, Tryz.ntmps49
  go_wp2_with fail
  go_loopg [5, 6, 7] (s.size + 2) (fun gh v5 v6 v7 wr => ∃ (i p m : Nat) (a : Option Addr) (cc : Nat) (ps : List Bs), s.size + 2 ≤ i + gh ∧ i ≤ s.size + 1 ∧ p ≤ i ∧ m ≤ i ∧ v5 = .slice a m cc ∧ v6 = .int .i64 p ∧ v7 = .int .i64 i ∧
    Hid (ps.length = m ∧ (i ≤ s.size → splL c S = ps ++ splL c (S.drop p) ∧ c ∉ (S.drop p).take (i - p)) ∧ (s.size < i → splL c S = ps)) ∧ Sat B (row 9 1 (.slice a m cc) m (strL ps) :: L) wr)
  case atStart => exact ⟨0, 0, 0, none, 0, [], by omega, by omega, by omega, by omega, rfl, rfl, rfl, Lib.hid ⟨rfl, fun _ => ⟨rfl, by simp⟩, fun e => by omega⟩, h.row_nil _ _⟩
  case round =>
    obtain ⟨i, p, m, ra, rc, ps, hg1, hi, hp, hm, rfl, rfl, rfl, Hp, hs1⟩ := hrel
    clear h
    have b1 : m + 1 ≤ maxLen := by unfold maxLen; omega
    have b2 : (m + 1) * 16 ≤ 140737488355328 := by omega
    have hS2 := (hs1.alloc (.cells #[.string (s.extract p i)] 9)).swap
    by_cases hle : i ≤ s.size
    · have hin : (i : Int) ≤ s.size := by omega
      by_cases heq : i = s.size
      · have hie : (i : Int) = s.size := by omega
        clear hS2
        have hS2 := (hs1.alloc (.cells #[.string (s.extract p s.size)] 9)).swap
        have hpi : (p : Int) ≤ i := by omega
        go_wp2_with (at_builtin; (with_reducible refine wpList_append_row rfl string_elem (.tmp 25) (.tmp 30) rfl _ _ m 1 _ _ rfl rfl hS2 (reads_new _ _ rfl (by omega)) rfl (by simp [Value.oneCell']) b1 b2 ?_); intro a' c' w' hS; go_frame)
        have hS := ‹Sat B (row 9 1 (.slice _ (m + 1) _) (m + 1) _ :: _ :: L) _›.swap.drop
        go_roundg (gk - 1)
        case measure => omega
        case rel =>
          refine ⟨i + 1, i + 1, m + 1, _, _, ps ++ [(S.drop p).take (i - p)], by omega, by omega, by omega, by omega, rfl, by go_num, by go_num, Lib.hid ⟨?_, fun e => by omega, fun _ => ?_⟩, ?_⟩
          · rw [List.length_append, Hp.out.1]; rfl
          · obtain ⟨h1, h2⟩ := Hp.out.2.1 hle
            have h3 : i = S.length := by have := Hsl.out; rw [this.1] at this; omega
            subst h3
            rw [h1, spl_end c S p h2]
          · rw [strL_append]
            have e := ext_val s p s.size
            rw [Hsl.out.1, ← heq] at e
            rw [← heq, e] at hS
            exact hS
      · have hlt : i < s.size := by omega
        have hltS : i < S.length := by have := Hsl.out; rw [this.1] at this; omega
        have hilt : (i : Int) < s.size := by omega
        have hine : ¬ (i : Int) = s.size := by omega
        have hpi : (p : Int) ≤ i := by omega
        obtain ⟨x, hx⟩ : ∃ x, s[i] = x := ⟨_, rfl⟩
        have hxS : S[i] = x := by
          rw [← hx]
          have e := Hsl.out.1
          subst e
          simp [ByteArray.getElem_eq_getElem_data]
        have HxS := Lib.hid hxS
        clear hxS
        by_cases hc : x = c
        · subst hc
          go_wp2_with (at_builtin; (with_reducible refine wpList_append_row rfl string_elem (.tmp 25) (.tmp 30) rfl _ _ m 1 _ _ rfl rfl hS2 (reads_new _ _ rfl (by omega)) rfl (by simp [Value.oneCell']) b1 b2 ?_); intro a' c' w' hS; go_frame)
          have hS := ‹Sat B (row 9 1 (.slice _ (m + 1) _) (m + 1) _ :: _ :: L) _›.swap.drop
          go_roundg (gk - 1)
          case measure => omega
          case rel =>
            refine ⟨i + 1, i + 1, m + 1, _, _, ps ++ [(S.drop p).take (i - p)], by omega, by omega, by omega, by omega, rfl, by go_num, by go_num, Lib.hid ⟨?_, fun _ => ?_, fun e => by omega⟩, ?_⟩
            · rw [List.length_append, Hp.out.1]; rfl
            · obtain ⟨h1, h2⟩ := Hp.out.2.1 hle
              rw [h1, spl_cut x S p i hp hltS HxS.out h2]
              simp
            · rw [strL_append]
              have e := ext_val s p i
              rw [Hsl.out.1] at e
              rw [e] at hS
              exact hS
        · have hcn : ¬ (x.toNat : Int) = c.toNat := fun e => hc (UInt8.toNat_inj.1 (by omega))
          have hcb : ((x.toNat : Int) == (c.toNat : Int)) = false := by simpa using hcn
          go_wp2_with fail
          go_roundg (gk - 1)
          case measure => omega
          case rel =>
            refine ⟨i + 1, p, m, _, _, ps, by omega, by omega, by omega, by omega, rfl, rfl, by go_num, Lib.hid ⟨Hp.out.1, fun _ => ⟨(Hp.out.2.1 hle).1, ?_⟩, fun e => by omega⟩, hs1⟩
            have h2 := (Hp.out.2.1 hle).2
            exact spl_on c S p i hp hltS (by rw [HxS.out]; exact hc) h2
    · have hgt : ¬ (i : Int) ≤ s.size := by omega
      have Hfin := Lib.hid (And.intro (Hp.out.2.2 (by omega)) Hp.out.1)
      clear hS2
      go_wp2_with fail
      go_ret
      exact ⟨ra, m, rc, by rw [Hfin.out.1, Hfin.out.2], rfl, by rw [Hfin.out.1]; exact hs1⟩
/-! ### Unhex -/
theorem rhalf (c : UInt8) (w : World) : Calls Tryz.prog 110 #[.int .u8 c.toNat] w fun e w' => e = .returned (.int .u8 (halfN c)) ∧ w' = w := by
  have hc := c.toNat_lt
  obtain ⟨k, hk⟩ : ∃ k, c.toNat = k := ⟨_, rfl⟩
  have hN : halfN c = if 48 ≤ k ∧ k ≤ 57 then k - 48 else if 97 ≤ k ∧ k ≤ 102 then k - 87 else 16 := by unfold halfN; rw [hk]
  have HN := Lib.hid hN
  rw [hk]
  have hk2 : k < 256 := by omega
  have h1 : 48 ≤ k → (k : Int) - 48 = (k - 48 : Nat) := fun h => by omega
  clear hN hc hk
  go_enter Tryz.func110, Tryz.ntmps110
  go_wp2_with fail
  all_goals
    go_ret
    refine ⟨?_, rfl⟩
    rw [HN.out]
    refine ret_int ?_
    (try rw [IntKind.wrap_u8]) <;> (try rw [IntKind.wrap_u8]) <;> (repeat' split) <;> omega
theorem u8_half (u v : Nat) (hu : u ≤ 15) (hv : v ≤ 15) : IntKind.u8.wrap (IntKind.u8.wrap ((u : Int) * 16) + (v : Int)) = (u * 16 + v : Nat) ∧ IntKind.u8.wrap ((u : Int) * 16 + v) = (u * 16 + v : Nat) := by
  rw [IntKind.wrap_u8, IntKind.wrap_u8, IntKind.wrap_u8]; omega
set_option maxHeartbeats 4000000 in
set_option maxRecDepth 100000 in
theorem runhex (s : ByteArray) (hs : s.size ≤ 140737488355328) (h : Sat B L w) :
    Calls Tryz.prog 76 #[.string s] w fun e w' => e = .returned (.tuple #[.string ⟨((unhexL s.data.toList).getD []).toArray⟩, .bool (unhexL s.data.toList).isSome]) ∧ Sat B L w' := by
  have hsl : s.data.toList.length = s.size := by rw [Array.length_toList]; rfl
  by_cases hodd : s.size % 2 = 1
  · have e1 : unhexL s.data.toList = none := unhex_odd _ (by omega)
    have e2 : (s.size : Int).tmod 2 = 1 := by rw [Int.tmod_eq_emod_of_nonneg (by omega)]; omega
    go_enter Tryz.func76, Tryz.ntmps76
    go_wp2_with fail
    go_ret2
    exact ⟨by rw [e1]; rfl, h⟩
  · have e2 : (s.size : Int).tmod 2 = 0 := by rw [Int.tmod_eq_emod_of_nonneg (by omega)]; omega
    have Hsl := Lib.hid (And.intro hsl hodd)
    clear hsl hodd
    go_enter Tryz.func76, Tryz.ntmps76
    go_wp2_with fail
    go_loopg [4, 5, 6, 7] (s.size + 1) (fun gh v4 v5 v6 v7 wr => ∃ (p m : Nat) (a : Option Addr) (c : Nat) (o : Bs), s.size + 1 ≤ p + gh ∧ p ≤ s.size ∧ v5 = .int .i64 p ∧ v4 = .slice a m c ∧ m ≤ p ∧
      Hid (p % 2 = 0 ∧ o.length = m ∧ unhexL s.data.toList = (unhexL (s.data.toList.drop p)).map (o ++ ·)) ∧ Sat B (row 5 1 (.slice a m c) m (u8s o) :: L) wr)
    case atStart => exact ⟨0, 0, none, 0, [], by omega, by omega, rfl, rfl, by omega, Lib.hid ⟨rfl, rfl, by simp⟩, h.row_nil _ _⟩
    case round =>
      obtain ⟨p, m, ra, rc, o, hg1, hp, rfl, rfl, hmp, Ho, hs1⟩ := hrel
      clear h
      by_cases hps : p < s.size
      · have hp1 : p + 1 < s.size := by have := Ho.out.1; have := Hsl.out.2; omega
        obtain ⟨x, hx⟩ : ∃ x, s[p] = x := ⟨_, rfl⟩
        obtain ⟨y, hy⟩ : ∃ y, s[p + 1] = y := ⟨_, rfl⟩
        have hix := fun w => rhalf x w
        have hiy := fun w => rhalf y w
        have Hxy := Lib.hid (And.intro hx hy)
        have hq1 : (p : Int) + 1 < s.size := by omega
        have hq2 : ((p : Int) + 1).toNat = p + 1 := by omega
        have hq3 : IntKind.i64.wrap ((p : Int) + 1) = (p : Int) + 1 := IntWalk.i64_in _ (by omega)
        have hcut : s.data.toList.drop p = x :: y :: s.data.toList.drop (p + 2) := by
          have hl := Hsl.out.1
          rw [List.drop_eq_getElem_cons (by omega), List.drop_eq_getElem_cons (by omega)]
          have e1 : s.data.toList[p]'(by omega) = x := by rw [← hx]; simp [ByteArray.getElem_eq_getElem_data]
          have e2 : s.data.toList[p + 1]'(by omega) = y := by rw [← hy]; simp [ByteArray.getElem_eq_getElem_data]
          rw [e1, e2]
        have Hcut := Lib.hid hcut
        clear hcut
        obtain ⟨u, hu⟩ : ∃ u, halfN x = u := ⟨_, rfl⟩
        obtain ⟨v, hv⟩ : ∃ v, halfN y = v := ⟨_, rfl⟩
        have hu16 : u ≤ 16 := by rw [← hu]; exact half_le x
        have hv16 : v ≤ 16 := by rw [← hv]; exact half_le y
        rw [hu] at hix
        rw [hv] at hiy
        have Huv := Lib.hid (And.intro hu hv)
        clear hu hv
        have hb3 : m + 1 ≤ maxLen := by unfold maxLen; omega
        have hb4 : (m + 1) * 1 ≤ 140737488355328 := by omega
        go_wp2_with fail
        go_region_with (first | (go_at_call_of 110 x; refine (hix _).mono ?_; rintro e w' ⟨rfl, rfl⟩) | (go_at_call_of 110 y; refine (hiy _).mono ?_; rintro e w' ⟨rfl, rfl⟩))
        all_goals
          clear hix hiy
          by_cases hu15 : u ≤ 15
          · by_cases hv15 : v ≤ 15
            · have hu0 : ¬ (15 : Int) < u := by omega
              have hv0 : ¬ (15 : Int) < v := by omega
              have hw1 := (u8_half u v hu15 hv15).1
              have hw2 := (u8_half u v hu15 hv15).2
              obtain ⟨z, hz⟩ : ∃ z, u * 16 + v = z := ⟨_, rfl⟩
              have hz8 : z < 256 := by omega
              have hz3 : (u : Int) * 16 + v = z := by omega
              rw [hz] at hw1 hw2
              have Hz := Lib.hid hz
              clear hz
              go_wp2_with (at_builtin; (with_reducible refine wpList_append_row rfl u8_elem (.tmp 33) (.tmp 38) rfl _ _ m 1 (u8s o) [.int .u8 z] rfl rfl ((hs1.alloc (.cells #[.int .u8 z] 5)).swap.drew) (reads_drew (reads_new _ _ rfl (by omega))) rfl (by simp [Value.oneCell']) hb3 hb4 ?_); intro a5 c5 w8 hS8; go_frame)
              have hS8 := ‹Sat B (row 5 1 (.slice _ (m + 1) _) (m + 1) _ :: _ :: L) _›.swap.drop
              go_roundg (gk - 1)
              case measure => omega
              case rel =>
                refine ⟨p + 2, m + 1, _, _, o ++ [UInt8.ofNat z], by omega, by omega, by first | rfl | go_num, rfl, by omega, Lib.hid ⟨?_, ?_, ?_⟩, ?_⟩
                · have := Ho.out.1; omega
                · rw [List.length_append, Ho.out.2.1]; rfl
                · rw [Ho.out.2.2, Hcut.out, unhexL, Huv.out.1, Huv.out.2, if_pos ⟨hu15, hv15⟩, Hz.out]
                  cases unhexL (s.data.toList.drop (p + 2)) <;> simp
                · have e : u8s (o ++ [UInt8.ofNat z]) = u8s o ++ [.int .u8 z] := by
                    have : (UInt8.ofNat z).toNat = z := by rw [UInt8.toNat_ofNat']; omega
                    simp [u8s, this]
                  rw [e]; exact hS8
            · have hnone : unhexL s.data.toList = none := by rw [Ho.out.2.2, Hcut.out, unhexL, Huv.out.1, Huv.out.2, if_neg (fun h => hv15 h.2)]; rfl
              have hv0 : (15 : Int) < v := by omega
              have hu0 : ¬ (15 : Int) < u := by omega
              have Hn := Lib.hid hnone
              clear hnone
              go_wp2_with fail
              go_ret2
              exact ⟨by rw [Hn.out]; rfl, hs1.drew.drop⟩
          · have hnone : unhexL s.data.toList = none := by rw [Ho.out.2.2, Hcut.out, unhexL, Huv.out.1, Huv.out.2, if_neg (fun h => hu15 h.1)]; rfl
            have hu0 : (15 : Int) < u := by omega
            have Hn := Lib.hid hnone
            clear hnone
            go_wp2_with fail
            go_ret2
            exact ⟨by rw [Hn.out]; rfl, hs1.drew.drop⟩
      · have hpe : p = s.size := by omega
        have hres : unhexL s.data.toList = some o := by
          rw [Ho.out.2.2, hpe, List.drop_of_length_le (by rw [Hsl.out.1]; exact Nat.le_refl _)]; simp [unhexL]
        have hr := hs1.row_reads
        have hlm := Ho.out.2.1
        have Hres := Lib.hid hres
        clear hres
        go_wp2_with ((with_reducible refine wpList_bytes_string rfl (.tmp 40) rfl Tryz.underlying23 Tryz.underlying5 Tryz.underlying9 (.slice ra m rc) m o rfl hr hlm ?_); go_frame)
        go_ret2
        exact ⟨by rw [Hres.out]; rfl, hs1.drop⟩
end
end Go.Proofs.YtcjindifdghpgaaGreatDoor
