/-
  Script: the program's Print.
-/
import Derived.Test.YtcjindifdghpgaaGreatDoorScr2
import Derived.Test.YtcjindifdghpgaaGreatDoorScr4
import Derived.Test.YtcjindifdghpgaaGreatDoorSlMark
namespace Go.Proofs.YtcjindifdghpgaaGreatDoor
open Go.RowKit
section
variable {B w : World} {L : List HP}
theorem owns_below {B0 n : Nat} {e : TypeId} {v : Value} {xs : List Value} {w w' : World} (h : w.ownsRow B0 e 1 v n xs) (hb : Below w.heap.size w w') : w'.ownsRow B0 e 1 v n xs := by
  refine ⟨h.1, ?_⟩
  rcases h.2 with h | ⟨g, cap, cur, h1, h2, h3, h4⟩
  · exact .inl h
  · exact .inr ⟨g, cap, cur, h1, h2, by rw [hb.block g (Array.getElem?_eq_some_iff.1 h3).1]; exact h3, h4⟩
theorem builder_below {T e : TypeId} {B0 b : Nat} {bs : List Value} {w w' : World} (h : Lib.IsBuilder T e B0 b bs w) (hb : Below w.heap.size w w') : Lib.IsBuilder T e B0 b bs w' := by
  have go : ∀ p, Lib.BuilderAt T e B0 b p bs w → Lib.BuilderAt T e B0 b p bs w' := fun p h => by
    obtain ⟨h1, v, h2, h3, h4⟩ := h
    exact ⟨h1, v, by rw [hb.block b (Array.getElem?_eq_some_iff.1 h2).1]; exact h2, owns_below h3 hb, h4⟩
  rcases h with h | h
  · exact .inl (go _ h)
  · exact .inr (go _ h)
theorem reads_below {w w' : World} {v : Value} {n : Nat} {xs : List Value} (h : reads w v n xs) (hb : Below w.heap.size w w') : reads w' v n xs := reads_mono h fun _ _ e => cell_below hb e
def printE (l : List Int) (raw : Bs) : Int := if mayL l = false then 2 else if 16384 < raw.length then 3 else 0
def printT (l : List Int) (raw : Bs) : Bs := if printE l raw = 0 then printL l raw else []
theorem index9 (a b c d e f g i j : Int) (k : Nat) (hk : k < 9) (x : Int) (hx : [a, b, c, d, e, f, g, i, j].getD k 0 = x) (w : World) :
    (Instr.index 65 (.agg #[.int .i64 a, .int .i64 b, .int .i64 c, .int .i64 d, .int .i64 e, .int .i64 f, .int .i64 g, .int .i64 i, .int .i64 j]) (.int .i64 (k : Int))).run Tryz.prog w = .ok (.int .i64 x) w := by
  rw [← hx]
  rcases (show k = 0 ∨ k = 1 ∨ k = 2 ∨ k = 3 ∨ k = 4 ∨ k = 5 ∨ k = 6 ∨ k = 7 ∨ k = 8 by omega) with rfl | rfl | rfl | rfl | rfl | rfl | rfl | rfl | rfl <;> kernel_rfl
set_option maxHeartbeats 2000000 in
set_option maxRecDepth 100000 in
theorem pprint_bad (a b c d e f g i j : Int) (v : Value) (hm : mayL [a, b, c, d, e, f, g, i, j] = false) :
    Calls Tryz.prog 6 #[.agg #[.int .i64 a, .int .i64 b, .int .i64 c, .int .i64 d, .int .i64 e, .int .i64 f, .int .i64 g, .int .i64 i, .int .i64 j], v] w fun y w' =>
      y = .returned (.tuple #[.string ⟨#[]⟩, .int .i64 2]) ∧ Below w.heap.size w w' := by
  go_enter Tryz.func6, Tryz.ntmps6
  go_wp2_with (go_at_call 20; refine (pmay _ _ _ _ _ _ _ _ _ ((Sat.start w).alloc _)).mono ?_; rintro e w' ⟨rfl, hS⟩; rw [hm])
  go_ret2
  exact ⟨rfl, hS.below⟩
set_option maxHeartbeats 2000000 in
set_option maxRecDepth 100000 in
theorem pprint_long (a b c d e f g i j : Int) (va : Option Addr) (n cc : Nat) (hm : mayL [a, b, c, d, e, f, g, i, j] = true) (hn : 16384 < n) :
    Calls Tryz.prog 6 #[.agg #[.int .i64 a, .int .i64 b, .int .i64 c, .int .i64 d, .int .i64 e, .int .i64 f, .int .i64 g, .int .i64 i, .int .i64 j], .slice va n cc] w fun y w' =>
      y = .returned (.tuple #[.string ⟨#[]⟩, .int .i64 3]) ∧ Below w.heap.size w w' := by
  go_enter Tryz.func6, Tryz.ntmps6
  go_wp2_with (go_at_call 20; refine (pmay _ _ _ _ _ _ _ _ _ ((Sat.start w).alloc _)).mono ?_; rintro e w' ⟨rfl, hS⟩; rw [hm])
  go_ret2
  exact ⟨rfl, hS.below⟩
set_option maxHeartbeats 4000000 in
set_option maxRecDepth 100000 in
theorem pprint_ok (hE : Env w) (a b c d e f g i j : Int) (va : Option Addr) (n cc : Nat) (raw : Bs) (hm : mayL [a, b, c, d, e, f, g, i, j] = true) (hn : n ≤ 16384) (hl : raw.length = n) (hr : reads w (.slice va n cc) n (u8s raw)) :
    Calls Tryz.prog 6 #[.agg #[.int .i64 a, .int .i64 b, .int .i64 c, .int .i64 d, .int .i64 e, .int .i64 f, .int .i64 g, .int .i64 i, .int .i64 j], .slice va n cc] w fun y w' =>
      y = .returned (.tuple #[.string ⟨(printL [a, b, c, d, e, f, g, i, j] raw).toArray⟩, .int .i64 0]) ∧ Below w.heap.size w w' := by
  have Hbd := Lib.hid (may_bounds hm)
  obtain ⟨hr0, hr1, hr2⟩ := reads_len hr
  have Hr := Lib.hid hr
  have HE := Lib.hid hE
  have Hl := Lib.hid hl
  clear hr hE hl
  go_enter Tryz.func6, Tryz.ntmps6
  go_wp2_with (first
    | (go_at_call 20; refine (pmay _ _ _ _ _ _ _ _ _ ((Sat.start w).alloc _)).mono ?_; rintro e w1 ⟨rfl, hS⟩; rw [hm]))
  have hb0 := Lib.fresh_isBuilder 70 5 w1
  refine (pwrite w1.heap.size w1.heap.size [] ⟨#[115, 101, 116, 117, 112]⟩ _ hb0 (by simp [ByteArray.size]) (by simp)).mono ?_
  rintro e w2 ⟨rfl, hb2, hbl2⟩
  have hbl2' : Below w1.heap.size w1 w2 := ((Below.refl _ w1).alloc (Nat.le_refl _) _).trans hbl2
  have hS2 := hS.of_below hbl2'
  have s0 := hS2.pt_cell 0; have s1 := hS2.pt_cell 1; have s2 := hS2.pt_cell 2; have s3 := hS2.pt_cell 3; have s4 := hS2.pt_cell 4; have s5 := hS2.pt_cell 5; have s6 := hS2.pt_cell 6; have s7 := hS2.pt_cell 7; have s8 := hS2.pt_cell 8
  simp only [List.getElem?_toArray, List.getElem?_cons_zero, List.getElem?_cons_succ] at s0 s1 s2 s3 s4 s5 s6 s7 s8
  clear hbl2 hb0
  go_wp2_with (go_at_call 22; refine (pnumbers _ _ _ _ _ _ _ _ _ (Sat.start w2)).mono ?_; rintro e w3 ⟨rfl, hS3⟩)
  have hb3 := builder_below hb2 hS3.below
  have hbl3 := hbl2'.trans (hS3.below.mono hbl2'.size)
  obtain ⟨bk, hb⟩ : ∃ b, w1.heap.size = b := ⟨_, rfl⟩
  rw [hb] at hbl3 hb3
  rw [hb]
  have HS := Lib.hid (And.intro hS hb)
  obtain ⟨xs, hxs⟩ : ∃ xs, [a, b, c, d, e, f, g, i, j] = xs := ⟨_, rfl⟩
  have hlx : xs.length = 9 := by rw [← hxs]; rfl
  rw [hxs] at Hbd
  have Hx := Lib.hid hxs
  have Hlx := Lib.hid hlx
  have hbw : w1.heap.size = bk := hb
  have hb3' : Lib.IsBuilder 70 5 bk bk (Lib.byteCells (lineL (xs.take 0))) w3 := hb3
  clear hm hS hS2 hS3 hb2 hb3 hb hbl2' s0 s1 s2 s3 s4 s5 s6 s7 s8 hxs hlx
  go_loopg [8, 20] 9 (fun gh v8 v20 wr => ∃ (k : Nat), k + gh ≤ 9 ∧ 9 ≤ k + gh ∧ v20 = .int .i64 k ∧ Lib.IsBuilder 70 5 bk bk (Lib.byteCells (lineL (xs.take k))) wr ∧ Below bk w1 wr)
  case atStart => exact ⟨0, by omega, by omega, rfl, hb3', hbl3⟩
  case round =>
    obtain ⟨k, hg1, hg2, rfl, hbr, hblr⟩ := hrel
    clear hb3' hbl3
    by_cases hk : k < 9
    · have hk2 : k < xs.length := by rw [Hlx.out]; exact hk
      obtain ⟨h0, h1⟩ := Hbd.out xs[k] (List.getElem_mem hk2)
      obtain ⟨x, hx⟩ : ∃ x, xs[k].toNat = x := ⟨_, rfl⟩
      have hxk : xs[k] = (x : Int) := by omega
      have hix := index9 a b c d e f g i j k hk x (by rw [Hx.out, ← hxk]; simp [List.getD, hk2])
      have hx2 : x < 18446744073709551616 := by omega
      have hx3 : x ≤ 9223372036854775807 := by omega
      obtain ⟨dd, hdd⟩ : ∃ dd : ByteArray, (⟨(Lib.decDigits x).toArray⟩ : ByteArray) = dd := ⟨_, rfl⟩
      have hds : dd.size ≤ 20 := by rw [← hdd]; exact dec_len x hx2
      have hEr : Env wr := (HE.out.at HS.out.1).below (by rw [hbw]; exact hblr)
      have hdig := pitoa hEr (Sat.start wr) x hx3
      rw [hdd] at hdig
      have Hd := Lib.hid hdd
      have Hxx := Lib.hid (show xs.take (k + 1) = xs.take k ++ [(x : Int)] by rw [List.take_succ_eq_append_getElem hk2, hxk])
      have Hlen := Lib.hid (lineL_len (xs.take k) (fun y hy => (Hbd.out y (List.mem_of_mem_take hy)).2))
      have hk3 : (k : Int) < 9 := by omega
      clear hx hxk h0 h1 hdd hEr
      go_wp2_with (go_at_call 23; refine hdig.mono ?_; rintro e w4 ⟨rfl, hS4⟩)
      have hb4 := builder_below hbr hS4.below
      have hbl4 := hblr.trans (hS4.below.mono (by rw [← hbw]; have := hblr.size; omega))
      refine (pwrite bk bk _ _ _ hb4 ?_ ?_).mono ?_
      · have := Hlen.out
        rw [List.length_take] at this
        have e1 : ((⟨#[32]⟩ : ByteArray) ++ dd).size = 1 + dd.size := by simp; rfl
        omega
      · rw [← hbw]; exact hbl4.size
      rintro e w5 ⟨rfl, hb5, hbl5⟩
      go_wp2_with fail
      go_roundg (gk - 1)
      case measure => omega
      case rel =>
        refine ⟨k + 1, by omega, by omega, by go_num, ?_, hbl4.trans hbl5⟩
        rw [Hxx.out, lineL_snoc, Int.toNat_natCast]
        rw [← Hd.out] at hb5
        simpa using hb5
    · obtain rfl : k = 9 := by omega
      rw [List.take_of_length_le (by rw [Hlx.out]; exact Nat.le_refl _)] at hbr
      have Hlen := Lib.hid (lineL_len xs (fun y hy => (Hbd.out y hy).2))
      go_wp2_with fail
      refine (pwrite bk bk _ ⟨#[10]⟩ _ hbr ?_ ?_).mono ?_
      · have := Hlen.out
        rw [Hlx.out] at this
        have e1 : (⟨#[10]⟩ : ByteArray).size = 1 := rfl
        omega
      · rw [← hbw]; exact hblr.size
      rintro e w5 ⟨rfl, hb5, hbl5⟩
      have hbl6 := hblr.trans hbl5
      have hb6 : Lib.IsBuilder 70 5 bk bk (Lib.byteCells (lineL xs ++ [10])) w5 := hb5
      have hr6 : reads w (.slice va n cc) n (u8s raw) := Hr.out
      clear hbr hblr hbl5 hb5
      go_wp2_with fail
      go_loopg [1] n (fun gh v1 wr => ∃ (m : Nat) (ra : Option Addr) (rc : Nat) (raw' l : Bs), m ≤ gh ∧ v1 = .slice ra m rc ∧ Hid (raw'.length = m ∧ l ++ bodyL raw' = printL xs raw) ∧ m ≤ n ∧ m ≤ rc ∧ rc ≤ 9223372036854775807 ∧ (ra = none → m = 0 ∧ rc = 0) ∧ Hid (reads w (.slice ra m rc) m (u8s raw')) ∧ Lib.IsBuilder 70 5 bk bk (Lib.byteCells l) wr ∧ Below bk w1 wr)
      case atStart => exact ⟨n, va, cc, raw, _, Nat.le_refl _, rfl, Lib.hid ⟨Hl.out, by simp [printL]⟩, Nat.le_refl _, hr1, hr2, hr0, Hr, hb6, hbl6⟩
      case round =>
        obtain ⟨m, ra, rc, raw', l, hg1, rfl, Hm, hmn, hmc, hcm, hra, Hrr, hbr, hblr⟩ := hrel
        clear hb6 hbl6 hr6 hr0 hr1 hr2
        by_cases hm0 : 0 < m
        · obtain ⟨k, hkd⟩ : ∃ k, min 32 m = k := ⟨_, rfl⟩
          have hk1 : 0 < k := by omega
          have hk2 : k ≤ m := by omega
          have hk3 : k ≤ 32 := by omega
          have f1 : min (32 : Int) (m : Int) = k := by omega
          have hrw : reads wr (.slice ra m rc) m (u8s raw') := reads_below Hrr.out (by
            have := (HS.out.1.of_below (by rw [hbw]; exact hblr)).below
            exact this)
          have hlr := Hm.out.1
          have hne : raw' ≠ [] := fun e => by rw [e] at hlr; simp at hlr; omega
          have hcell : ∃ g off, ra = some ⟨g, off, none⟩ := by
            obtain ⟨a', c', hv, _, _, _, h3⟩ := hrw
            cases hv
            obtain ⟨g', off', h4, _⟩ := h3 0 _ (by rw [List.getElem?_eq_getElem (by rw [u8s_len, hlr]; exact hm0)])
            exact ⟨g', off', h4⟩
          obtain ⟨g', off', rfl⟩ := hcell
          have hrt : reads wr (.slice (some ⟨g', off', none⟩) k rc) k (u8s (raw'.take k)) := by
            have := reads_take hrw k k hk2
            rw [u8s, ← List.map_take] at this
            exact this
          have hlt : (raw'.take k).length = k := by rw [List.length_take, hlr]; omega
          have htail := reads_tail Hrr.out k 1 hk2 (by rw [u8s_len, hlr, Nat.mul_one])
          rw [Nat.mul_one, u8s, ← List.map_drop] at htail
          have htk : raw'.take k = raw'.take 32 := by
            by_cases h32 : 32 ≤ m
            · rw [show k = 32 by omega]
            · rw [show k = m by omega, List.take_of_length_le (by omega), List.take_of_length_le (by omega)]
          have hdk : raw'.drop k = raw'.drop 32 := by
            by_cases h32 : 32 ≤ m
            · rw [show k = 32 by omega]
            · rw [show k = m by omega, List.drop_of_length_le (by omega), List.drop_of_length_le (by omega)]
          have hbody := bodyL_cons hne
          rw [← htk, ← hdk] at hbody
          have hlen2 : l.length + 65 ≤ 140737488355328 := by
            have h1 := congrArg List.length Hm.out.2
            have h2 := bodyL_len raw
            have h3 := Hlen.out
            rw [Hlx.out] at h3
            simp only [printL, List.length_append, List.length_cons, Hl.out] at h1 h2
            omega
          have hsz : (⟨(raw'.take k).toArray⟩ : ByteArray).size = k := hlt
          have hhex := phex (⟨(raw'.take k).toArray⟩ : ByteArray) (by rw [hsz]; omega) (Sat.start wr)
          have hhl : (hexL (raw'.take k)).length = 2 * k := by rw [hex_length, hlt]
          obtain ⟨hh, hhd⟩ : ∃ hh : ByteArray, (⟨(hexL (raw'.take k)).toArray⟩ : ByteArray) = hh := ⟨_, rfl⟩
          have hhs : hh.size ≤ 64 := by rw [← hhd]; show (hexL (raw'.take k)).length ≤ 64; omega
          have hhd' : hh.data.toList = hexL (raw'.take k) := by rw [← hhd]
          have hhex' : Calls Tryz.prog 24 #[.string ⟨(raw'.take k).toArray⟩] wr fun e w' => e = .returned (.string hh) ∧ Sat wr [] w' := by
            rw [← hhd]; exact hhex
          have Hz := Lib.hid (And.intro hhd' (And.intro hbody (And.intro hlt hlr)))
          have Ht := Lib.hid htail
          have hEr : bk ≤ wr.heap.size := by rw [← hbw]; exact hblr.size
          have hkc : k ≤ rc := by omega
          have hlr2 : k ≤ n := by omega
          clear hkd hrw hhex hhl hhd hhd' hsz hbody hne htk hdk htail
          have hlastc : rc = k ∨ rc ≠ k := by omega
          rcases hlastc with hlast | hlast
          · subst hlast
            go_wp2_with (first
              | ((with_reducible refine wpList_bytes_string rfl (.tmp 41) rfl Tryz.underlying23 Tryz.underlying5 Tryz.underlying9 (.slice (some ⟨g', off', none⟩) rc _) rc (raw'.take rc) rfl hrt hlt ?_); go_frame)
              | (go_at_call 24; refine hhex'.mono ?_; rintro e w6 ⟨rfl, hS6⟩))
            have hb6 := builder_below hbr hS6.below
            have hbl6 := hblr.trans (hS6.below.mono hEr)
            refine (pwrite bk bk _ _ _ hb6 ?_ ?_).mono ?_
            · have e1 : (hh ++ (⟨#[10]⟩ : ByteArray)).size = hh.size + 1 := by simp; rfl
              omega
            · rw [← hbw]; exact hbl6.size
            rintro e w7 ⟨rfl, hb7, hbl7⟩
            have hbl8 := hbl6.trans hbl7
            clear hbl7 hbl6 hb6 hhex' hrt
            go_wp2_with fail
            go_roundg (gk - 1)
            case measure => omega
            case rel =>
              refine ⟨m - rc, some ⟨g', off', none⟩, rc - rc, raw'.drop rc, _, by omega, ?_, ?_, by omega, by omega, by omega, (fun e => by cases e), Lib.hid (Ht.out.1 (by first | trivial | rfl)), hb7, hbl8⟩
              · first | rfl | (congr 1 <;> omega)
              · refine Lib.hid ⟨by rw [List.length_drop, Hz.out.2.2.2], ?_⟩
                rw [← Hm.out.2, Hz.out.2.1]
                simp [Hz.out.1]
          ·
            go_wp2_with (first
              | ((with_reducible refine wpList_bytes_string rfl (.tmp 41) rfl Tryz.underlying23 Tryz.underlying5 Tryz.underlying9 (.slice (some ⟨g', off', none⟩) k _) k (raw'.take k) rfl hrt hlt ?_); go_frame)
              | (go_at_call 24; refine hhex'.mono ?_; rintro e w6 ⟨rfl, hS6⟩))
            have hb6 := builder_below hbr hS6.below
            have hbl6 := hblr.trans (hS6.below.mono hEr)
            refine (pwrite bk bk _ _ _ hb6 ?_ ?_).mono ?_
            · have e1 : (hh ++ (⟨#[10]⟩ : ByteArray)).size = hh.size + 1 := by simp; rfl
              omega
            · rw [← hbw]; exact hbl6.size
            rintro e w7 ⟨rfl, hb7, hbl7⟩
            have hbl8 := hbl6.trans hbl7
            clear hbl7 hbl6 hb6 hhex' hrt
            go_wp2_with fail
            go_roundg (gk - 1)
            case measure => omega
            case rel =>
              refine ⟨m - k, some ⟨g', off' + k, none⟩, rc - k, raw'.drop k, _, by omega, ?_, ?_, by omega, by omega, by omega, (fun e => by cases e), Lib.hid (Ht.out.2 hlast), hb7, hbl8⟩
              · first | rfl | (congr 1; omega) | simp
              · refine Lib.hid ⟨by rw [List.length_drop, Hz.out.2.2.2], ?_⟩
                rw [← Hm.out.2, Hz.out.2.1]
                simp [Hz.out.1]
        · obtain rfl : m = 0 := by omega
          have hl0 : raw' = [] := List.eq_nil_of_length_eq_zero Hm.out.1
          have hfin : l = printL xs raw := by have := Hm.out.2; rw [hl0, bodyL_nil, List.append_nil] at this; exact this
          rw [hfin] at hbr
          have hBs : bk ≤ wr.heap.size := by rw [← hbw]; exact hblr.size
          go_wp2_with (go_at_call 25; refine (Tryz.Builder_String_any bk bk _ _ hbr hBs).mono ?_; rintro e w9 ⟨rfl, hbl9⟩)
          go_ret2
          refine ⟨by rw [Hx.out]; rfl, ?_⟩
          have := hblr.trans hbl9
          rw [← hbw] at this
          exact (HS.out.1.of_below this).below
end
end Go.Proofs.YtcjindifdghpgaaGreatDoor
