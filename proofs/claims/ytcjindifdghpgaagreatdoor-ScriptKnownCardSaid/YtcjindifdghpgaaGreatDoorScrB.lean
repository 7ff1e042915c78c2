/-
  Script: Parse's loop over the lines.
-/
import Derived.Test.YtcjindifdghpgaaGreatDoorScrA
import Derived.Test.YtcjindifdghpgaaGreatDoorScrR
import Derived.Test.YtcjindifdghpgaaGreatDoorScr8
import Derived.Test.YtcjindifdghpgaaGreatDoorSlStore
namespace Go.Proofs.YtcjindifdghpgaaGreatDoor
open Go.RowKit
section
variable {B w : World} {L : List HP}
def setC (l : List Int) : Array Value := (l.map (Value.int .i64)).toArray
/-- What Parse's closure works on. -/
def prs (ba bl bls bx br g : Nat) (ls : List Bs) (n N i : Nat) (x : List Int) (ra : Option Addr) (m rc : Nat) (raw : Bs) (L : List HP) : List HP :=
  pt ba (.cells #[.int .i64 i] 3) :: pt bl (.cells #[.int .i64 n] 3) :: pt bls (.cells #[.slice (some ⟨g, 0, none⟩) N N] 60) ::
    pt bx (.cells (setC x) 28) :: pt br (.cells #[.slice ra m rc] 23) :: row 5 1 (.slice ra m rc) m (u8s raw) :: row 9 1 (.slice (some ⟨g, 0, none⟩) N N) N (strL ls) :: L
theorem row_cell0 {e : TypeId} {n c g : Nat} {xs : List Value} (h : Sat B (row e 1 (.slice (some ⟨g, 0, none⟩) n c) n xs :: L) w) (j : Nat) (v : Value) (hv : xs[j]? = some v) : w.cell? ⟨g, j, none⟩ = some v := by
  have := row_cell_at h j v hv
  simpa using this
abbrev z9 : List Int := [0, 0, 0, 0, 0, 0, 0, 0, 0]
theorem wrap64_small (k : Nat) (h : k ≤ 65537) : wrap64 (k : Int) = k := by unfold wrap64; omega
set_option maxHeartbeats 2000000 in
set_option maxRecDepth 100000 in
theorem pclosure (hE : Env B) (ba bl bls bx br g : Nat) (ls : List Bs) (n N : Nat) (hN : n + 1 = N) (hNb : N ≤ 65537) (hn : ls.length = N) (hln : ∀ l ∈ ls, l.length ≤ 65536)
    (h : Sat B (prs ba bl bls bx br g ls n N 0 z9 none 0 0 [] L) w) :
    Calls Tryz.prog 28 #[.pointer (some ⟨ba, 0, none⟩), .pointer (some ⟨bl, 0, none⟩), .pointer (some ⟨bls, 0, none⟩), .pointer (some ⟨bx, 0, none⟩), .pointer (some ⟨br, 0, none⟩)] w fun y w' =>
      ∃ (i : Nat) (x : List Int) (ra : Option Addr) (m rc : Nat) (raw : Bs), x.length = 9 ∧ Sat B (prs ba bl bls bx br g ls n N i x ra m rc raw L) w' ∧
        ((parseLs ls = .ok (x, raw) ∧ y = .returned (.tuple #[])) ∨ ∃ c, parseLs ls = .error (c, i) ∧ y = gives c) := by
  have Hn := Lib.hid (And.intro hn hln)
  have HN := Lib.hid hN
  have hNn : (n : Int) + 1 = N := by omega
  clear hn hln
  go_enter Tryz.func28, Tryz.ntmps28
  go_wp2_with fail
  go_loopg [5, 6] (n + 1) (fun gh v5 v6 wr => ∃ (i : Nat) (x : List Int) (ra : Option Addr) (m rc : Nat) (raw : Bs), n + 1 ≤ i + gh ∧ i ≤ n ∧ m ≤ 16384 ∧
    Hid (x.length = 9 ∧ raw.length = m ∧ (i = 0 → x = z9 ∧ raw = [] ∧ m = 0 ∧ rc = 0 ∧ ra = none) ∧ (0 < i → parseLs ls = withX x (runL (ls.drop i) i (ls.getD (i - 1) []) raw))) ∧
    Sat B (prs ba bl bls bx br g ls n N i x ra m rc raw L) wr)
  case atStart => exact ⟨0, z9, none, 0, 0, [], by omega, by omega, by omega, Lib.hid ⟨rfl, rfl, fun _ => ⟨rfl, rfl, rfl, rfl, rfl⟩, fun e => by omega⟩, h⟩
  case round =>
    obtain ⟨i, x, ra, m, rc, raw, hg1, hin, hm, Hx, hs1⟩ := hrel
    clear h
    have ca : wr.cell? ⟨ba, 0, none⟩ = some (.int .i64 i) := hs1.pt_cell 0
    have cl : wr.cell? ⟨bl, 0, none⟩ = some (.int .i64 n) := hs1.swap.pt_cell 0
    have cls : wr.cell? ⟨bls, 0, none⟩ = some (.slice (some ⟨g, 0, none⟩) N N) := hs1.p2.pt_cell 0
    have crow := (hs1.pull (i := 6) rfl)
    by_cases hi : i < n
    · have hlt : i < ls.length := by rw [Hn.out.1]; omega
      obtain ⟨l, hl⟩ : ∃ l, ls[i]? = some l := ⟨_, List.getElem?_eq_getElem hlt⟩
      have hll : l.length ≤ 65536 := Hn.out.2 l (List.mem_of_getElem? hl)
      obtain ⟨sl, hsl⟩ : ∃ sl : ByteArray, sl = ⟨l.toArray⟩ := ⟨_, rfl⟩
      have hsz : sl.size ≤ 65536 := by rw [hsl]; exact hll
      have hsd : sl.data.toList = l := by rw [hsl]
      have c0 : wr.cell? ⟨g, i, none⟩ = some (.string sl) := row_cell0 crow i _ (by simp [strL, hl, hsl])
      by_cases hi0 : i = 0
      · subst hi0
        obtain ⟨rfl, rfl, rfl, rfl, rfl⟩ := Hx.out.2.2.1 rfl
        have hset := psetup hE hs1 sl hsz
        rw [hsd] at hset
        have hcons : ∃ l' t, ls = l :: l' :: t := by
          match ls, Hn.out.1, hl with
          | [], e, _ => simp at e; omega
          | [_], e, _ => simp at e; omega
          | a :: b :: t, _, e => simp at e; subst e; exact ⟨b, t, rfl⟩
        have hp : parseLs ls = match setupL l with | none => .error (15, 0) | some x => withX x (runL (ls.drop 1) 1 l []) := by
          obtain ⟨l', t, rfl⟩ := hcons
          rfl
        have Hp := Lib.hid (And.intro hp hl)
        clear hcons hp hl hsd hsl crow hlt
        go_wp2_with fail
        refine hset.mono ?_
        rintro e w2 ⟨⟨a, b, c, d, e, f, gg, ii, j, hs, rfl⟩ | ⟨hs, rfl⟩, hS2⟩
        · have Hs := Lib.hid hs
          clear hset hs
          have hSx := hS2.pull (i := 3) rfl
          go_wp2_with (first
            | ((with_reducible change wpList _ _ _ ({ dst := _, op := Op.store _ (.tmp 3) _, type := _, pos := _, after := _, guard := _ } :: _) _ _); (refine wpList_store_all (vs := #[.int .i64 a, .int .i64 b, .int .i64 c, .int .i64 d, .int .i64 e, .int .i64 f, .int .i64 gg, .int .i64 ii, .int .i64 j]) rfl (.tmp 3) (.tmp 17) rfl rfl rfl (by kernel_rfl) hSx rfl (by simp [Value.oneCell']) ?_); intro w8 hS8; have ca8 : w8.cell? ⟨ba, 0, none⟩ = some (.int .i64 0) := (hS8.pull (i := 1) rfl).pt_cell 0; have hSa := hS8.pull (i := 1) rfl; go_frame)
            | ((with_reducible change wpList _ _ _ ({ dst := _, op := Op.store _ (.tmp 0) _, type := _, pos := _, after := _, guard := _ } :: _) _ _); (refine wpList_store_one (v := .int .i64 1) rfl (.tmp 0) (.tmp 11) rfl rfl rfl rfl rfl (by kernel_rfl) hSa ?_); intro w9 hS9; go_frame))
          go_roundg (gk - 1)
          case measure => omega
          case rel =>
            have hS4 := (((hS9.pull (i := 1) rfl).pull (i := 3) rfl).pull (i := 3) rfl).pull (i := 3) rfl
            refine ⟨1, [a, b, c, d, e, f, gg, ii, j], none, 0, 0, [], by omega, by omega, by omega, Lib.hid ⟨rfl, rfl, fun e => by omega, fun _ => ?_⟩, hS4⟩
            rw [Hp.out.1, Hs.out]
            simp [List.getD, Hp.out.2]
        · have hp := Hp.out.1
          rw [hs] at hp
          exact ⟨rfl, 0, z9, none, 0, 0, [], rfl, hS2, .inr ⟨15, hp, rfl⟩⟩
      · have hi1 : 1 ≤ i := by omega
        have hpar := Hx.out.2.2.2 (by omega)
        obtain ⟨q, hq⟩ : ∃ q, ls[i - 1]? = some q := ⟨_, List.getElem?_eq_getElem (by omega : i - 1 < ls.length)⟩
        have hqd : ls.getD (i - 1) [] = q := by simp [List.getD, hq]
        obtain ⟨sq, hsq⟩ : ∃ sq : ByteArray, sq = ⟨q.toArray⟩ := ⟨_, rfl⟩
        have hsqz : sq.size = q.length := by rw [hsq]; rfl
        obtain ⟨i1, hi1d⟩ : ∃ i1, i - 1 = i1 := ⟨_, rfl⟩
        rw [hi1d] at hq
        have hi1e : (i : Int) - 1 = i1 := by omega
        have hi1N : (i1 : Int) < N := by omega
        have hiN : (i : Int) < N := by omega
        have hun := punhex sl (by omega) hs1
        rw [hsd] at hun
        rw [hqd, run_step ls n i (by have := Hn.out.1; have := HN.out; omega) hi q raw l hl] at hpar
        have hi0' : ¬ (i : Int) = 0 := by omega
        obtain ⟨ub, hub⟩ : ∃ ub, unhexL l = ub := ⟨_, rfl⟩
        rw [hub] at hun
        rw [stepL, hub] at hpar
        have Hpar := Lib.hid hpar
        have Hq := Lib.hid (And.intro hq hsq)
        have hul := unhex_length l
        rw [hub] at hul
        have Hl := Lib.hid hl
        clear hpar hq hsq hqd hub hl hsl hsd crow hlt
        have hi1p : (0 : Int) ≤ i1 := by omega
        have Hw1 := Lib.hid (wrap64_small i1 (by omega))
        cases ub with
        | none =>
          have hbad : parseLs ls = .error (15, i) := by rw [Hpar.out, stepB]; rfl
          have Hbad := Lib.hid hbad
          clear hbad
          go_wp2_with (first
            | (go_at_call 30; refine hun.mono ?_; rintro e w2 ⟨rfl, hS2⟩; have hw1 : ∀ z : Int, z = i1 → wrap64 z = z := (fun z hz => by rw [hz]; exact Hw1.out); have hSr := hS2.pull (i := 5) rfl; have ca2 : w2.cell? ⟨ba, 0, none⟩ = some (.int .i64 i) := hS2.pt_cell 0; have cls2 : w2.cell? ⟨bls, 0, none⟩ = some (.slice (some ⟨g, 0, none⟩) N N) := hS2.p2.pt_cell 0; have cq2 : w2.cell? ⟨g, i1, none⟩ = some (.string sq) := row_cell0 (hS2.pull (i := 6) rfl) i1 _ (by simp [strL, Hq.out.1, Hq.out.2]); have cr2 : w2.cell? ⟨br, 0, none⟩ = some (.slice ra m rc) := hS2.p4.pt_cell 0)
            | (go_at_call 31; refine (pgive _ _).mono ?_; rintro e w' ⟨rfl, rfl⟩))
          exact ⟨rfl, i, x, ra, m, rc, raw, Hx.out.1, hS2, .inr ⟨15, Hbad.out, rfl⟩⟩
        | some b =>
          have hbl := hul b rfl
          clear hul
          by_cases hb0 : b = []
          · subst hb0
            have hbad : parseLs ls = .error (15, i) := by rw [Hpar.out, stepB, if_pos (.inl rfl)]; rfl
            have Hbad := Lib.hid hbad
            clear hbad
            go_wp2_with (first
              | (go_at_call 30; refine hun.mono ?_; rintro e w2 ⟨rfl, hS2⟩; have hw1 : ∀ z : Int, z = i1 → wrap64 z = z := (fun z hz => by rw [hz]; exact Hw1.out); have hSr := hS2.pull (i := 5) rfl; have ca2 : w2.cell? ⟨ba, 0, none⟩ = some (.int .i64 i) := hS2.pt_cell 0; have cls2 : w2.cell? ⟨bls, 0, none⟩ = some (.slice (some ⟨g, 0, none⟩) N N) := hS2.p2.pt_cell 0; have cq2 : w2.cell? ⟨g, i1, none⟩ = some (.string sq) := row_cell0 (hS2.pull (i := 6) rfl) i1 _ (by simp [strL, Hq.out.1, Hq.out.2]); have cr2 : w2.cell? ⟨br, 0, none⟩ = some (.slice ra m rc) := hS2.p4.pt_cell 0)
              | (go_at_call 31; refine (pgive _ _).mono ?_; rintro e w' ⟨rfl, rfl⟩))
            exact ⟨rfl, i, x, ra, m, rc, raw, Hx.out.1, hS2, .inr ⟨15, Hbad.out, rfl⟩⟩
          · have hbe : List.isEmpty b = false := by (cases b with | nil => exact absurd rfl hb0 | cons _ _ => rfl)
            by_cases hb32 : 32 < b.length
            · have hb33 : 32 < (b.length : Int) := by omega
              have hbad : parseLs ls = .error (15, i) := by rw [Hpar.out, stepB, if_pos (.inr (.inl hb32))]; rfl
              have Hbad := Lib.hid hbad
              clear hbad
              go_wp2_with (first
                | (go_at_call 30; refine hun.mono ?_; rintro e w2 ⟨rfl, hS2⟩; have hw1 : ∀ z : Int, z = i1 → wrap64 z = z := (fun z hz => by rw [hz]; exact Hw1.out); have hSr := hS2.pull (i := 5) rfl; have ca2 : w2.cell? ⟨ba, 0, none⟩ = some (.int .i64 i) := hS2.pt_cell 0; have cls2 : w2.cell? ⟨bls, 0, none⟩ = some (.slice (some ⟨g, 0, none⟩) N N) := hS2.p2.pt_cell 0; have cq2 : w2.cell? ⟨g, i1, none⟩ = some (.string sq) := row_cell0 (hS2.pull (i := 6) rfl) i1 _ (by simp [strL, Hq.out.1, Hq.out.2]); have cr2 : w2.cell? ⟨br, 0, none⟩ = some (.slice ra m rc) := hS2.p4.pt_cell 0)
                | (go_at_call 31; refine (pgive _ _).mono ?_; rintro e w' ⟨rfl, rfl⟩))
              exact ⟨rfl, i, x, ra, m, rc, raw, Hx.out.1, hS2, .inr ⟨15, Hbad.out, rfl⟩⟩
            · have hb33 : (b.length : Int) ≤ 32 := by omega
              obtain ⟨M1, hM1⟩ : ∃ M1, M1 = m + (⟨b.toArray⟩ : ByteArray).size := ⟨_, rfl⟩
              have hM2 : M1 = m + b.length := hM1
              have bM1 : M1 ≤ maxLen := by unfold maxLen; omega
              have bM2 : M1 ≤ 140737488355328 := by omega
              have hys : u8s (raw ++ b) = u8s raw ++ u8s (⟨b.toArray⟩ : ByteArray).data.toList := by simp [u8s]
              by_cases h1i : 1 < i
              · have h1i2 : 1 < (i : Int) := by omega
                by_cases h64 : q.length = 64
                · have h64' : (q.length : Int) = 64 := by omega
                  have hno : ¬ (b = [] ∨ 32 < b.length ∨ (1 < i ∧ q.length ≠ 64)) := by (rintro (h | h | ⟨_, h⟩); exact hb0 h; exact hb32 h; exact h (by omega))
                  by_cases hbig : 16384 < m + b.length
                  · have hbad : parseLs ls = .error (3, i) := by rw [Hpar.out, stepB, if_neg hno, if_pos (by rw [Hx.out.2.1]; exact hbig)]; rfl
                    have Hbad := Lib.hid hbad
                    have hbig2 : 16384 < (M1 : Int) := by omega
                    clear hbad
                    go_wp2_with (first
                      | (go_at_call 30; refine hun.mono ?_; rintro e w2 ⟨rfl, hS2⟩; have hw1 : ∀ z : Int, z = i1 → wrap64 z = z := (fun z hz => by rw [hz]; exact Hw1.out); have hSr := hS2.pull (i := 5) rfl; have ca2 : w2.cell? ⟨ba, 0, none⟩ = some (.int .i64 i) := hS2.pt_cell 0; have cls2 : w2.cell? ⟨bls, 0, none⟩ = some (.slice (some ⟨g, 0, none⟩) N N) := hS2.p2.pt_cell 0; have cq2 : w2.cell? ⟨g, i1, none⟩ = some (.string sq) := row_cell0 (hS2.pull (i := 6) rfl) i1 _ (by simp [strL, Hq.out.1, Hq.out.2]); have cr2 : w2.cell? ⟨br, 0, none⟩ = some (.slice ra m rc) := hS2.p4.pt_cell 0)
                      | (at_builtin; (refine wpList_append_str rfl u8_elem 9 Tryz.underlying9 (.tmp 51) (.tmp 52) rfl _ ⟨b.toArray⟩ m M1 (u8s raw) (u8s (raw ++ b)) rfl rfl hSr hM1 hys bM1 bM2 ?_); intro a4 c4 w7 hS7; have hSb := hS7.pull (i := 5) rfl; go_frame)
                      | ((with_reducible change wpList _ _ _ ({ dst := _, op := Op.store _ (.tmp 4) _, type := _, pos := _, after := _, guard := _ } :: _) _ _); (refine wpList_store_one (v := .slice a4 M1 c4) rfl (.tmp 4) (.tmp 53) rfl rfl rfl rfl rfl (by kernel_rfl) hSb ?_); intro w8 hS8; have hSa := hS8.pull (i := 2) rfl; have cr8 : w8.cell? ⟨br, 0, none⟩ = some (.slice a4 M1 c4) := hS8.pt_cell 0; have ca8 : w8.cell? ⟨ba, 0, none⟩ = some (.int .i64 i) := (hS8.pull (i := 2) rfl).pt_cell 0; go_frame)
                      | ((with_reducible change wpList _ _ _ ({ dst := _, op := Op.store _ (.tmp 0) _, type := _, pos := _, after := _, guard := _ } :: _) _ _); (refine wpList_store_one (v := .int .i64 ((i : Int) + 1)) rfl (.tmp 0) (.tmp 11) rfl rfl rfl rfl rfl (by kernel_rfl) hSa ?_); intro w9 hS9; go_frame)
                      | (go_at_call 31; refine (pgive _ _).mono ?_; rintro e w' ⟨rfl, rfl⟩))
                    refine ⟨rfl, i, x, a4, M1, c4, raw ++ b, Hx.out.1, ?_, .inr ⟨3, Hbad.out, rfl⟩⟩
                    exact (((hS8.pull (i := 5) rfl).pull (i := 5) rfl).pull (i := 5) rfl).pull (i := 5) rfl
                  · have hok : parseLs ls = withX x (runL (ls.drop (i + 1)) (i + 1) l (raw ++ b)) := by rw [Hpar.out, stepB, if_neg hno, if_neg (by rw [Hx.out.2.1]; exact hbig)]; rfl
                    have Hok := Lib.hid hok
                    have hbig2 : (M1 : Int) ≤ 16384 := by omega
                    clear hok
                    go_wp2_with (first
                      | (go_at_call 30; refine hun.mono ?_; rintro e w2 ⟨rfl, hS2⟩; have hw1 : ∀ z : Int, z = i1 → wrap64 z = z := (fun z hz => by rw [hz]; exact Hw1.out); have hSr := hS2.pull (i := 5) rfl; have ca2 : w2.cell? ⟨ba, 0, none⟩ = some (.int .i64 i) := hS2.pt_cell 0; have cls2 : w2.cell? ⟨bls, 0, none⟩ = some (.slice (some ⟨g, 0, none⟩) N N) := hS2.p2.pt_cell 0; have cq2 : w2.cell? ⟨g, i1, none⟩ = some (.string sq) := row_cell0 (hS2.pull (i := 6) rfl) i1 _ (by simp [strL, Hq.out.1, Hq.out.2]); have cr2 : w2.cell? ⟨br, 0, none⟩ = some (.slice ra m rc) := hS2.p4.pt_cell 0)
                      | (at_builtin; (refine wpList_append_str rfl u8_elem 9 Tryz.underlying9 (.tmp 51) (.tmp 52) rfl _ ⟨b.toArray⟩ m M1 (u8s raw) (u8s (raw ++ b)) rfl rfl hSr hM1 hys bM1 bM2 ?_); intro a4 c4 w7 hS7; have hSb := hS7.pull (i := 5) rfl; go_frame)
                      | ((with_reducible change wpList _ _ _ ({ dst := _, op := Op.store _ (.tmp 4) _, type := _, pos := _, after := _, guard := _ } :: _) _ _); (refine wpList_store_one (v := .slice a4 M1 c4) rfl (.tmp 4) (.tmp 53) rfl rfl rfl rfl rfl (by kernel_rfl) hSb ?_); intro w8 hS8; have hSa := hS8.pull (i := 2) rfl; have cr8 : w8.cell? ⟨br, 0, none⟩ = some (.slice a4 M1 c4) := hS8.pt_cell 0; have ca8 : w8.cell? ⟨ba, 0, none⟩ = some (.int .i64 i) := (hS8.pull (i := 2) rfl).pt_cell 0; go_frame)
                      | ((with_reducible change wpList _ _ _ ({ dst := _, op := Op.store _ (.tmp 0) _, type := _, pos := _, after := _, guard := _ } :: _) _ _); (refine wpList_store_one (v := .int .i64 ((i : Int) + 1)) rfl (.tmp 0) (.tmp 11) rfl rfl rfl rfl rfl (by kernel_rfl) hSa ?_); intro w9 hS9; go_frame))
                    clear hw1
                    go_roundg (gk - 1)
                    case measure => omega
                    case rel =>
                      have hS10 := (((hS9.pull (i := 5) rfl).pull (i := 5) rfl).pull (i := 5) rfl).pull (i := 3) rfl
                      refine ⟨i + 1, x, a4, M1, c4, raw ++ b, by omega, by omega, by omega, Lib.hid ⟨Hx.out.1, by rw [List.length_append, Hx.out.2.1, hM1]; rfl, fun e => by omega, fun _ => ?_⟩, ?_⟩
                      · rw [Hok.out]; simp [List.getD, Hl.out]
                      · exact hS10
                · have h64' : ¬ (q.length : Int) = 64 := by omega
                  have h64m : ((q.length : Int) != 64) = true := by (simp; omega)
                  have hbad : parseLs ls = .error (15, i) := by rw [Hpar.out, stepB, if_pos (.inr (.inr ⟨h1i, by omega⟩))]; rfl
                  have Hbad := Lib.hid hbad
                  clear hbad
                  go_wp2_with (first
                    | (go_at_call 30; refine hun.mono ?_; rintro e w2 ⟨rfl, hS2⟩; have hw1 : ∀ z : Int, z = i1 → wrap64 z = z := (fun z hz => by rw [hz]; exact Hw1.out); have hSr := hS2.pull (i := 5) rfl; have ca2 : w2.cell? ⟨ba, 0, none⟩ = some (.int .i64 i) := hS2.pt_cell 0; have cls2 : w2.cell? ⟨bls, 0, none⟩ = some (.slice (some ⟨g, 0, none⟩) N N) := hS2.p2.pt_cell 0; have cq2 : w2.cell? ⟨g, i1, none⟩ = some (.string sq) := row_cell0 (hS2.pull (i := 6) rfl) i1 _ (by simp [strL, Hq.out.1, Hq.out.2]); have cr2 : w2.cell? ⟨br, 0, none⟩ = some (.slice ra m rc) := hS2.p4.pt_cell 0)
                    | (go_at_call 31; refine (pgive _ _).mono ?_; rintro e w' ⟨rfl, rfl⟩))
                  exact ⟨rfl, i, x, ra, m, rc, raw, Hx.out.1, hS2, .inr ⟨15, Hbad.out, rfl⟩⟩
              · have h1e : i = 1 := by omega
                have h1z : Value.int .i64 (i : Int) = .int .i64 1 := by rw [h1e]; rfl
                have H1z := Lib.hid h1z
                rw [h1z] at ca
                rw [h1e] at c0
                clear h1z h1e
                have hno : ¬ (b = [] ∨ 32 < b.length ∨ (1 < i ∧ q.length ≠ 64)) := by (rintro (h | h | ⟨h, _⟩); exact hb0 h; exact hb32 h; exact h1i h)
                by_cases hbig : 16384 < m + b.length
                · have hbad : parseLs ls = .error (3, i) := by rw [Hpar.out, stepB, if_neg hno, if_pos (by rw [Hx.out.2.1]; exact hbig)]; rfl
                  have Hbad := Lib.hid hbad
                  have hbig2 : 16384 < (M1 : Int) := by omega
                  clear hbad
                  go_wp2_with (first
                    | (go_at_call 30; refine hun.mono ?_; rintro e w2 ⟨rfl, hS2⟩; have hw1 : ∀ z : Int, z = i1 → wrap64 z = z := (fun z hz => by rw [hz]; exact Hw1.out); have hSr := hS2.pull (i := 5) rfl; have ca2 : w2.cell? ⟨ba, 0, none⟩ = some (.int .i64 1) := (hS2.pt_cell 0).trans (congrArg some H1z.out); have cls2 : w2.cell? ⟨bls, 0, none⟩ = some (.slice (some ⟨g, 0, none⟩) N N) := hS2.p2.pt_cell 0; have cq2 : w2.cell? ⟨g, i1, none⟩ = some (.string sq) := row_cell0 (hS2.pull (i := 6) rfl) i1 _ (by simp [strL, Hq.out.1, Hq.out.2]); have cr2 : w2.cell? ⟨br, 0, none⟩ = some (.slice ra m rc) := hS2.p4.pt_cell 0)
                    | (at_builtin; (refine wpList_append_str rfl u8_elem 9 Tryz.underlying9 (.tmp 51) (.tmp 52) rfl _ ⟨b.toArray⟩ m M1 (u8s raw) (u8s (raw ++ b)) rfl rfl hSr hM1 hys bM1 bM2 ?_); intro a4 c4 w7 hS7; have hSb := hS7.pull (i := 5) rfl; go_frame)
                    | ((with_reducible change wpList _ _ _ ({ dst := _, op := Op.store _ (.tmp 4) _, type := _, pos := _, after := _, guard := _ } :: _) _ _); (refine wpList_store_one (v := .slice a4 M1 c4) rfl (.tmp 4) (.tmp 53) rfl rfl rfl rfl rfl (by kernel_rfl) hSb ?_); intro w8 hS8; have hSa := hS8.pull (i := 2) rfl; have cr8 : w8.cell? ⟨br, 0, none⟩ = some (.slice a4 M1 c4) := hS8.pt_cell 0; have ca8 : w8.cell? ⟨ba, 0, none⟩ = some (.int .i64 1) := ((hS8.pull (i := 2) rfl).pt_cell 0).trans (congrArg some H1z.out); go_frame)
                    | ((with_reducible change wpList _ _ _ ({ dst := _, op := Op.store _ (.tmp 0) _, type := _, pos := _, after := _, guard := _ } :: _) _ _); (refine wpList_store_one (v := .int .i64 2) rfl (.tmp 0) (.tmp 11) rfl rfl rfl rfl rfl (by kernel_rfl) hSa ?_); intro w9 hS9; go_frame)
                    | (go_at_call 31; refine (pgive _ _).mono ?_; rintro e w' ⟨rfl, rfl⟩))
                  refine ⟨rfl, i, x, a4, M1, c4, raw ++ b, Hx.out.1, ?_, .inr ⟨3, Hbad.out, rfl⟩⟩
                  exact (((hS8.pull (i := 5) rfl).pull (i := 5) rfl).pull (i := 5) rfl).pull (i := 5) rfl
                · have hok : parseLs ls = withX x (runL (ls.drop (i + 1)) (i + 1) l (raw ++ b)) := by rw [Hpar.out, stepB, if_neg hno, if_neg (by rw [Hx.out.2.1]; exact hbig)]; rfl
                  have Hok := Lib.hid hok
                  have hbig2 : (M1 : Int) ≤ 16384 := by omega
                  clear hok
                  go_wp2_with (first
                    | (go_at_call 30; refine hun.mono ?_; rintro e w2 ⟨rfl, hS2⟩; have hw1 : ∀ z : Int, z = i1 → wrap64 z = z := (fun z hz => by rw [hz]; exact Hw1.out); have hSr := hS2.pull (i := 5) rfl; have ca2 : w2.cell? ⟨ba, 0, none⟩ = some (.int .i64 1) := (hS2.pt_cell 0).trans (congrArg some H1z.out); have cls2 : w2.cell? ⟨bls, 0, none⟩ = some (.slice (some ⟨g, 0, none⟩) N N) := hS2.p2.pt_cell 0; have cq2 : w2.cell? ⟨g, i1, none⟩ = some (.string sq) := row_cell0 (hS2.pull (i := 6) rfl) i1 _ (by simp [strL, Hq.out.1, Hq.out.2]); have cr2 : w2.cell? ⟨br, 0, none⟩ = some (.slice ra m rc) := hS2.p4.pt_cell 0)
                    | (at_builtin; (refine wpList_append_str rfl u8_elem 9 Tryz.underlying9 (.tmp 51) (.tmp 52) rfl _ ⟨b.toArray⟩ m M1 (u8s raw) (u8s (raw ++ b)) rfl rfl hSr hM1 hys bM1 bM2 ?_); intro a4 c4 w7 hS7; have hSb := hS7.pull (i := 5) rfl; go_frame)
                    | ((with_reducible change wpList _ _ _ ({ dst := _, op := Op.store _ (.tmp 4) _, type := _, pos := _, after := _, guard := _ } :: _) _ _); (refine wpList_store_one (v := .slice a4 M1 c4) rfl (.tmp 4) (.tmp 53) rfl rfl rfl rfl rfl (by kernel_rfl) hSb ?_); intro w8 hS8; have hSa := hS8.pull (i := 2) rfl; have cr8 : w8.cell? ⟨br, 0, none⟩ = some (.slice a4 M1 c4) := hS8.pt_cell 0; have ca8 : w8.cell? ⟨ba, 0, none⟩ = some (.int .i64 1) := ((hS8.pull (i := 2) rfl).pt_cell 0).trans (congrArg some H1z.out); go_frame)
                    | ((with_reducible change wpList _ _ _ ({ dst := _, op := Op.store _ (.tmp 0) _, type := _, pos := _, after := _, guard := _ } :: _) _ _); (refine wpList_store_one (v := .int .i64 2) rfl (.tmp 0) (.tmp 11) rfl rfl rfl rfl rfl (by kernel_rfl) hSa ?_); intro w9 hS9; go_frame))
                  clear hw1
                  go_roundg (gk - 1)
                  case measure => omega
                  case rel =>
                    have hS10 := (((hS9.pull (i := 5) rfl).pull (i := 5) rfl).pull (i := 5) rfl).pull (i := 3) rfl
                    refine ⟨i + 1, x, a4, M1, c4, raw ++ b, by omega, by omega, by omega, Lib.hid ⟨Hx.out.1, by rw [List.length_append, Hx.out.2.1, hM1]; rfl, fun e => by omega, fun _ => ?_⟩, ?_⟩
                    · rw [Hok.out]; simp [List.getD, Hl.out]
                    · have h1e : ((i + 1 : Nat) : Int) = 2 := by omega
                      rw [show prs ba bl bls bx br g ls n N (i + 1) x a4 M1 c4 (raw ++ b) L = pt ba (.cells #[.int .i64 ((i + 1 : Nat) : Int)] 3) :: _ from rfl, h1e]
                      exact hS10
    · obtain rfl : i = n := by omega
      have hlt : i < ls.length := by rw [Hn.out.1]; omega
      obtain ⟨l, hl⟩ : ∃ l, ls[i]? = some l := ⟨_, List.getElem?_eq_getElem hlt⟩
      obtain ⟨sl, hsl⟩ : ∃ sl : ByteArray, sl = ⟨l.toArray⟩ := ⟨_, rfl⟩
      have hsd : sl.data.toList = l := by rw [hsl]
      have c0 : wr.cell? ⟨g, i, none⟩ = some (.string sl) := row_cell0 crow i _ (by simp [strL, hl, hsl])
      by_cases hi0 : i = 0
      · have hbad : parseLs ls = .error (15, 0) := by
          have hh := Hn.out.1
          match ls, hh with
          | [], e => rfl
          | [_], e => rfl
          | _ :: _ :: _, e => simp at e; omega
        have Hbad := Lib.hid hbad
        have hi0' : (i : Int) = 0 := by omega
        have hgiv : ∃ c, parseLs ls = .error (c, i) ∧ gives 15 = gives c := ⟨15, by rw [hbad, hi0], rfl⟩
        clear hlt hl hsl hsd c0
        go_wp2_with (first
          | (go_at_call 31; refine (pgive _ _).mono ?_; rintro e w' ⟨rfl, rfl⟩))
        exact ⟨rfl, i, x, ra, m, rc, raw, Hx.out.1, hs1, .inr hgiv⟩
      · have hpar := Hx.out.2.2.2 (by omega)
        rw [run_last ls i i (by rw [Hn.out.1]; omega) rfl _ _ l hl] at hpar
        have Hpar := Lib.hid hpar
        have hi0' : ¬ (i : Int) = 0 := by omega
        have hiN : (i : Int) < N := by omega
        clear hpar hlt hl hsl
        by_cases hle : l = []
        · have hsn : sl.toList.isEmpty = true := by rw [show sl.toList = l from (Lib.toList_data _).trans hsd, hle]; rfl
          have hsn2 : sl.toList = [] := by rw [show sl.toList = l from (Lib.toList_data _).trans hsd, hle]
          have hok : parseLs ls = .ok (x, raw) := by rw [Hpar.out, if_pos hle]; rfl
          have Hok := Lib.hid hok
          clear hok
          go_wp2_with fail
          exact bodyPost_end (results_none rfl _ _ _) rfl ⟨i, x, ra, m, rc, raw, Hx.out.1, hs1, .inl ⟨Hok.out, rfl⟩⟩
        · have hsn2 : sl.toList ≠ [] := by rw [show sl.toList = l from (Lib.toList_data _).trans hsd]; exact hle
          have hsn : sl.toList.isEmpty = false := by (cases h : sl.toList with | nil => exact absurd h hsn2 | cons _ _ => rfl)
          have hbad : parseLs ls = .error (15, i) := by rw [Hpar.out, if_neg hle]; rfl
          have Hbad := Lib.hid hbad
          clear hbad
          go_wp2_with (first
            | (go_at_call 31; refine (pgive _ _).mono ?_; rintro e w' ⟨rfl, rfl⟩))
          exact ⟨rfl, i, x, ra, m, rc, raw, Hx.out.1, hs1, .inr ⟨15, Hbad.out, rfl⟩⟩
end
end Go.Proofs.YtcjindifdghpgaaGreatDoor
