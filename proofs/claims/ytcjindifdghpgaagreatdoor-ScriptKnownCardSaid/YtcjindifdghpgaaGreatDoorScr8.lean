/-
  Script: the program's Unhex.
-/
import Derived.Test.YtcjindifdghpgaaGreatDoorScr3
import Derived.Test.YtcjindifdghpgaaGreatDoorScr1
import Derived.Deep.QuietTactic
import Derived.BigQuiet
namespace Go.Proofs.YtcjindifdghpgaaGreatDoor
open Go.RowKit
section
variable {B w : World} {L : List HP}
theorem ix_half (c : UInt8) : Lib.indexByte (⟨#[48, 49, 50, 51, 52, 53, 54, 55, 56, 57, 97, 98, 99, 100, 101, 102]⟩ : ByteArray).data.toList c = if halfN c ≤ 15 then (halfN c : Int) else -1 := by
  have : ∀ k : Fin 256, Lib.indexByte [48, 49, 50, 51, 52, 53, 54, 55, 56, 57, 97, 98, 99, 100, 101, 102] (UInt8.ofNat k.val) = if halfN (UInt8.ofNat k.val) ≤ 15 then (halfN (UInt8.ofNat k.val) : Int) else -1 := by decide +kernel
  have h := this ⟨c.toNat, c.toNat_lt⟩
  simp only [UInt8.ofNat_toNat] at h
  exact h
theorem pindex (c : UInt8) (w : World) : Calls Tryz.prog 59 #[.string ⟨#[48, 49, 50, 51, 52, 53, 54, 55, 56, 57, 97, 98, 99, 100, 101, 102]⟩, .int .u8 c.toNat] w fun e w' => e = .returned (.int .i64 (if halfN c ≤ 15 then (halfN c : Int) else -1)) ∧ w' = w := by
  have h := Tryz.strings_IndexByte ⟨#[48, 49, 50, 51, 52, 53, 54, 55, 56, 57, 97, 98, 99, 100, 101, 102]⟩ (c.toNat : Int) w
  have e : ((c.toNat : Int).toNat).toUInt8 = c := by simp
  rw [e, ix_half] at h
  exact h
theorem half_le (c : UInt8) : halfN c ≤ 16 := by unfold halfN; split <;> (try split) <;> omega
theorem or_half (u v : Nat) (hu : u < 16) (hv : v < 16) : bits BinOp.or .i64 ((u : Int) * 16) v = (u * 16 + v : Nat) := by
  have : ∀ a b : Fin 16, bits BinOp.or .i64 ((a.val : Int) * 16) (b.val : Int) = (a.val * 16 + b.val : Nat) := by decide +kernel
  exact this ⟨u, hu⟩ ⟨v, hv⟩
set_option maxHeartbeats 4000000 in
set_option maxRecDepth 100000 in
theorem punhex (s : ByteArray) (hs : s.size ≤ 140737488355328) (h : Sat B L w) :
    Calls Tryz.prog 30 #[.string s] w fun e w' => e = .returned (.tuple #[.string ⟨((unhexL s.data.toList).getD []).toArray⟩, .bool (unhexL s.data.toList).isSome]) ∧ Sat B L w' := by
  have hsl : s.data.toList.length = s.size := by rw [Array.length_toList]; rfl
  by_cases hodd : s.size % 2 = 1
  · have e1 : unhexL s.data.toList = none := unhex_odd _ (by omega)
    have e2 : (s.size : Int).tmod 2 = 1 := by rw [Int.tmod_eq_emod_of_nonneg (by omega)]; omega
    go_enter Tryz.func30, Tryz.ntmps30
    go_wp2_with fail
    go_ret2
    exact ⟨by rw [e1]; rfl, h⟩
  · obtain ⟨n2, hn2⟩ : ∃ n2, s.size / 2 = n2 := ⟨_, rfl⟩
    have e2 : (s.size : Int).tmod 2 = 0 := by rw [Int.tmod_eq_emod_of_nonneg (by omega)]; omega
    have e3 : (s.size : Int) / 2 = n2 := by omega
    have e4 : (s.size : Int).tdiv 2 = n2 := by rw [Int.tdiv_eq_ediv_of_nonneg (by omega)]; omega
    have i4 : IntKind.i64.wrap (n2 : Int) = n2 := IntWalk.i64_in _ (by omega)
    have hb1 : 1 * n2 ≤ 281474976710656 := by omega
    have hb2 : n2 ≤ maxLen := by unfold maxLen; omega
    have Hsl := Lib.hid (And.intro hsl (And.intro hn2 hodd))
    clear hsl hn2 hodd
    go_enter Tryz.func30, Tryz.ntmps30
    go_wp2_with (at_make; refine wpList_make_row rfl u8_elem _ _ rfl 0 n2 rfl rfl h (Nat.zero_le _) hb1 hb2 ?_; intro a1 w1 hS1; go_frame)
    have hS1 : Sat B (row 5 1 (.slice _ 0 _) 0 [] :: L) _ := ‹_›
    clear h
    go_loopg [4, 5, 6, 7] (s.size + 1) (fun gh v4 v5 v6 v7 wr => ∃ (p m : Nat) (a : Option Addr) (c : Nat) (o : Bs), s.size + 1 ≤ p + gh ∧ p ≤ s.size ∧ v5 = .int .i64 p ∧ v4 = .slice a m c ∧ m ≤ p ∧
      Hid (p % 2 = 0 ∧ o.length = m ∧ unhexL s.data.toList = (unhexL (s.data.toList.drop p)).map (o ++ ·)) ∧ Sat B (row 5 1 (.slice a m c) m (u8s o) :: L) wr)
    case atStart => exact ⟨0, 0, _, _, [], by omega, by omega, rfl, rfl, by omega, Lib.hid ⟨rfl, rfl, by simp⟩, hS1⟩
    case round =>
      obtain ⟨p, m, ra, rc, o, hg1, hp, rfl, rfl, hmp, Ho, hs1⟩ := hrel
      clear hS1
      by_cases hps : p < s.size
      · have hp1 : p + 1 < s.size := by have := Ho.out.1; have := Hsl.out.2.2; omega
        obtain ⟨x, hx⟩ : ∃ x, s[p] = x := ⟨_, rfl⟩
        obtain ⟨y, hy⟩ : ∃ y, s[p + 1] = y := ⟨_, rfl⟩
        obtain ⟨vx, hvx⟩ : ∃ v : Int, (if halfN x ≤ 15 then (halfN x : Int) else -1) = v := ⟨_, rfl⟩
        obtain ⟨vy, hvy⟩ : ∃ v : Int, (if halfN y ≤ 15 then (halfN y : Int) else -1) = v := ⟨_, rfl⟩
        have hix := fun w => pindex x w
        have hiy := fun w => pindex y w
        rw [hvx] at hix
        rw [hvy] at hiy
        have Hv := Lib.hid (And.intro hvx hvy)
        have Hxy := Lib.hid (And.intro hx hy)
        clear hvx hvy
        have hq1 : (p : Int) + 1 < s.size := by omega
        have hq2 : ((p : Int) + 1).toNat = p + 1 := by omega
        have hq3 : IntKind.i64.wrap ((p : Int) + 1) = (p : Int) + 1 := IntWalk.i64_in _ (by omega)
        have hcut : s.data.toList.drop p = x :: y :: s.data.toList.drop (p + 2) := by
          have hl := Hsl.out.1
          rw [List.drop_eq_getElem_cons (by omega), List.drop_eq_getElem_cons (by omega)]
          have e1 : s.data.toList[p]'(by omega) = x := by rw [← hx]; simp [ByteArray.getElem_eq_getElem_data]
          have e2 : s.data.toList[p + 1]'(by omega) = y := by rw [← hy]; simp [ByteArray.getElem_eq_getElem_data]
          rw [e1, e2]
        have Hcut := Lib.hid hcut
        clear hcut
        have hcase : (vx < 0 ∨ vy < 0) ∧ unhexL s.data.toList = none ∨ ∃ u v z : Nat, vx = u ∧ vy = v ∧ u ≤ 15 ∧ v ≤ 15 ∧ z < 256 ∧ bits BinOp.or .i64 ((u : Int) * 16) v = z ∧
            unhexL s.data.toList = (unhexL (s.data.toList.drop (p + 2))).map ((o ++ [UInt8.ofNat z]) ++ ·) := by
          have hvv := Hv.out
          by_cases hgood : halfN x ≤ 15 ∧ halfN y ≤ 15
          · rw [if_pos hgood.1, if_pos hgood.2] at hvv
            refine .inr ⟨halfN x, halfN y, halfN x * 16 + halfN y, hvv.1.symm, hvv.2.symm, hgood.1, hgood.2, by omega, or_half _ _ (by omega) (by omega), ?_⟩
            rw [Ho.out.2.2, Hcut.out, unhexL, if_pos hgood]
            cases unhexL (s.data.toList.drop (p + 2)) <;> simp
          · refine .inl ⟨?_, by rw [Ho.out.2.2, Hcut.out, unhexL, if_neg hgood]; rfl⟩
            by_cases h1 : halfN x ≤ 15
            · have h2 : ¬ halfN y ≤ 15 := fun e => hgood ⟨h1, e⟩
              rw [if_neg h2] at hvv; right; omega
            · rw [if_neg h1] at hvv; left; omega
        have Hc := Lib.hid hcase
        have hb3 : m + 1 ≤ maxLen := by unfold maxLen; omega
        have hb4 : (m + 1) * 1 ≤ 140737488355328 := by omega
        clear hcase
        go_wp2_with fail
        go_region_with (first | (go_at_call 59; refine (hix _).mono ?_; rintro e w' ⟨rfl, rfl⟩) | (go_at_call 59; refine (hiy _).mono ?_; rintro e w' ⟨rfl, rfl⟩))
        all_goals
          clear hix hiy
          rcases Hc.out with ⟨hneg, hnone⟩ | ⟨u, v, z, rfl, rfl, hu15, hv15, hz, hor, hstep⟩
          · have Hn := Lib.hid hnone
            clear hnone
            by_cases hvn : vx < 0
            · go_wp2_with fail
              go_ret2
              exact ⟨by rw [Hn.out]; rfl, hs1.drew.drop⟩
            · have hvn2 : vy < 0 := by omega
              go_wp2_with fail
              go_ret2
              exact ⟨by rw [Hn.out]; rfl, hs1.drew.drop⟩
          · have hz2 : (z : Int) % 256 = z := by omega
            have hu0 : ¬ (u : Int) < 0 := by omega
            have hv0 : ¬ (v : Int) < 0 := by omega
            have hu1 : (0 : Int) ≤ u := by omega
            have hv1 : (0 : Int) ≤ v := by omega
            have Hst := Lib.hid hstep
            clear hstep
            go_wp2_with (at_builtin; (with_reducible refine wpList_append_row rfl u8_elem (.tmp 37) (.tmp 43) rfl _ _ m 1 (u8s o) [.int .u8 z] rfl rfl ((hs1.alloc (.cells #[.int .u8 z] 5)).swap.drew) (reads_drew (reads_new _ _ rfl (by omega))) rfl (by simp [Value.oneCell']) hb3 hb4 ?_); intro a5 c5 w8 hS8; go_frame)
            have hS8 := ‹Sat B (row 5 1 (.slice _ (m + 1) _) (m + 1) _ :: _ :: L) _›.swap.drop
            go_roundg (gk - 1)
            case measure => omega
            case rel =>
              refine ⟨p + 2, m + 1, _, _, o ++ [UInt8.ofNat z], by omega, by omega, by first | rfl | go_num, rfl, by omega, Lib.hid ⟨?_, ?_, Hst.out⟩, ?_⟩
              · have := Ho.out.1; omega
              · rw [List.length_append, Ho.out.2.1]; rfl
              · have e : u8s (o ++ [UInt8.ofNat z]) = u8s o ++ [.int .u8 z] := by
                  have : (UInt8.ofNat z).toNat = z := by rw [UInt8.toNat_ofNat']; omega
                  simp [u8s, this]
                rw [e]; exact hS8
      · have hpe : p = s.size := by omega
        have hres : unhexL s.data.toList = some o := by
          rw [Ho.out.2.2, hpe, List.drop_of_length_le (by rw [Hsl.out.1]; exact Nat.le_refl _)]; simp [unhexL]
        have hr := hs1.row_reads
        have hlm := Ho.out.2.1
        have Hres := Lib.hid hres
        clear hres
        go_wp2_with ((with_reducible refine wpList_bytes_string rfl (.tmp 45) rfl Tryz.underlying23 Tryz.underlying5 Tryz.underlying9 (.slice ra m rc) m o rfl hr hlm ?_); go_frame)
        go_ret2
        exact ⟨by rw [Hres.out]; rfl, hs1.drop⟩
end
end Go.Proofs.YtcjindifdghpgaaGreatDoor
