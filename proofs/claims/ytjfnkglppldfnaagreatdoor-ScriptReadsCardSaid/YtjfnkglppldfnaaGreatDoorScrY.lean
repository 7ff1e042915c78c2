/-
  Script: the document's Parse: contract. (Printed by a program of this repo: gen/scry.py.)
-/
import Derived.Test.YtjfnkglppldfnaaGreatDoorScrQ
import Derived.Test.YtjfnkglppldfnaaGreatDoorScrD
namespace Go.Proofs.YtjfnkglppldfnaaGreatDoor
set_option linter.all false
open Go.RowKit
section
variable {B w : World} {L : List HP}
abbrev zF : Obj := .cells #[.int .i64 0, .int .i64 0] 31
/-- What the document's Parse answers. -/
def rparsed (B : World) (L : List HP) (s : Bs) (y : Ending) (w' : World) : Prop :=
  (∃ (a b c d e f g i j : Int) (raw : Bs) (ra : Option Addr) (m rc : Nat), parseL s = .ok ([a, b, c, d, e, f, g, i, j], raw) ∧
    y = .returned (.tuple #[.agg #[.int .i64 a, .int .i64 b, .int .i64 c, .int .i64 d, .int .i64 e, .int .i64 f, .int .i64 g, .int .i64 i, .int .i64 j], .slice ra m rc, .agg #[.int .i64 0, .int .i64 0]]) ∧ raw.length = m ∧
    Sat B (row 5 1 (.slice ra m rc) m (u8s raw) :: L) w') ∨
  (∃ (c : Int) (i : Nat), parseL s = .error (c, i) ∧ y = .returned (.tuple #[zS, .slice none 0 0, .agg #[.int .i64 c, .int .i64 i]]) ∧ Sat B L w')
/-- What the loop works on. -/
def rprs (bx bf b0 g off rc0 : Nat) (ls : List Bs) (N : Nat) (x : List Int) (ra : Option Addr) (m rc : Nat) (raw : Bs) (L : List HP) : List HP :=
  row 5 1 (.slice ra m rc) m (u8s raw) :: pt bx (.cells (setC x) 23) :: row 9 1 (.slice (some ⟨g, off, none⟩) N rc0) N (strL ls) :: pt bf zF :: pt b0 zC0 :: L
set_option maxHeartbeats 8000000 in
set_option maxRecDepth 100000 in
theorem rparse (s : ByteArray) (h : Sat B L w) : Calls Tryz.prog 8 #[.string s] w (rparsed B L s.data.toList) := by
  have h0 := (h.alloc' zC0 (n := w.heap.size) rfl).alloc' zF (n := w.heap.size + 1) (by simp)
  have hsl : s.data.toList.length = s.size := by rw [Array.length_toList]; rfl
  by_cases hbig : 65536 < s.size
  · have hbig2 : 65536 < (s.size : Int) := by omega
    have Hp := Lib.hid (show parseL s.data.toList = .error (3, 0) by rw [parseL, if_pos (by omega)])
    have hSz := h0.swap
    clear hbig h0 hsl
    go_enter Tryz.func8, Tryz.ntmps8
    go_wp2_with (first
      | ((with_reducible change wpList _ _ _ ({ dst := _, op := Op.store _ (.tmp 2) _, type := _, pos := _, after := _, guard := _ } :: _) _ _); (refine wpList_store_all (vs := #[.int .i64 0, .int .i64 0, .int .i64 0, .int .i64 0, .int .i64 0, .int .i64 0, .int .i64 0, .int .i64 0, .int .i64 0]) rfl (.tmp 2) _ rfl rfl rfl (by kernel_rfl) hSz rfl (by simp [Value.oneCell']) ?_); intro w8 hS8; have hSf := hS8.swap; go_frame)
      | ((with_reducible change wpList _ _ _ ({ dst := _, op := Op.store _ (.tmp 4) _, type := _, pos := _, after := _, guard := _ } :: _) _ _); (refine wpList_store_all (vs := #[.int .i64 3, .int .i64 0]) rfl (.tmp 4) _ rfl rfl rfl (by kernel_rfl) hSf rfl (by simp [Value.oneCell']) ?_); intro w9 hS9; have p7 := hS9.swap.pt_cell; have z0 := p7 0; have z1 := p7 1; have z2 := p7 2; have z3 := p7 3; have z4 := p7 4; have z5 := p7 5; have z6 := p7 6; have z7 := p7 7; have z8 := p7 8; have p8 := hS9.pt_cell; have y0 := p8 0; have y1 := p8 1; simp only [List.getElem?_toArray, List.getElem?_cons_zero, List.getElem?_cons_succ] at z0 z1 z2 z3 z4 z5 z6 z7 z8 y0 y1; clear p7 p8; go_frame))
    exact bodyPost_ret (v := .tuple #[zS, .slice none 0 0, .agg #[.int .i64 3, .int .i64 0]]) (by simp [results, Tryz.results8, go_sem, z0, z1, z2, z3, z4, z5, z6, z7, z8, y0, y1]) rfl (.inr ⟨3, 0, Hp.out, rfl, hS9.drop.drop⟩)
  · have hp : parseL s.data.toList = parseLs (splL 10 s.data.toList) := by rw [parseL, if_neg (by omega)]
    have hs2 : (s.size : Int) ≤ 65536 := by omega
    have hsp := rsplit s 10 (by omega) h0
    rw [show (((10 : UInt8).toNat : Nat) : Int) = 10 from rfl] at hsp
    obtain ⟨ls, hls⟩ : ∃ ls, splL 10 s.data.toList = ls := ⟨_, rfl⟩
    have hln : ∀ l ∈ ls, l.length ≤ 65536 := fun p hp => by
      have := (splL_mem 10 s.data.toList p (by rw [hls]; exact hp)).1
      omega
    obtain ⟨N, hN⟩ : ∃ N, ls.length = N := ⟨_, rfl⟩
    have hN1 : 1 ≤ N ∧ N ≤ 65537 := by
      rw [← hN, ← hls, splL_length]
      have := List.count_le_length (a := (10 : UInt8)) (l := s.data.toList)
      omega
    obtain ⟨n, hnN⟩ : ∃ n, N = n + 1 := ⟨N - 1, by omega⟩
    have hNn : (N : Int) - 1 = n := by omega
    have hN2 : N ≤ 65537 := hN1.2
    have hN3 : 1 ≤ N := hN1.1
    rw [hls] at hp hsp
    have Hp := Lib.hid hp
    have Hn := Lib.hid (And.intro hN hln)
    have HnN := Lib.hid hnN
    clear hp hln hbig h0 hsl hN1 hN hls hnN
    go_enter Tryz.func8, Tryz.ntmps8
    go_wp2_with (go_at_call 28; refine hsp.mono ?_; rintro e w2 ⟨ra0, N', rc0, hN', rfl, hS2⟩; rw [Hn.out.1] at hN'; subst hN'; obtain ⟨g, off, rfl⟩ : ∃ g off, ra0 = some ⟨g, off, none⟩ := (by rcases hS2.row_form with ⟨_, h, _⟩ | ⟨g, o, _, h, _⟩; omega; cases h; exact ⟨_, _, rfl⟩))
    obtain ⟨bx, hbx⟩ : ∃ bx, w2.heap.size = bx := ⟨_, rfl⟩
    have hS3 : Sat B (rprs bx (w.heap.size + 1) w.heap.size g off rc0 ls N z9 none 0 0 [] L) (w2.alloc (.cells #[.int .i64 0, .int .i64 0, .int .i64 0, .int .i64 0, .int .i64 0, .int .i64 0, .int .i64 0, .int .i64 0, .int .i64 0] 23)) := (hS2.alloc' (.cells #[.int .i64 0, .int .i64 0, .int .i64 0, .int .i64 0, .int .i64 0, .int .i64 0, .int .i64 0, .int .i64 0, .int .i64 0] 23) (n := bx) hbx.symm).row_nil _ _
    rw [hbx]
    clear h hsp hS2 hbx
    have hnN : n + 1 = N := HnN.out.symm
    go_loopg [8, 9, 10, 11, 12, 13] (n + 1) (fun gh v8 v9 v10 v11 v12 v13 wr => ∃ (i : Nat) (x : List Int) (ra : Option Addr) (m rc : Nat) (raw : Bs), n + 1 ≤ i + gh ∧ i ≤ n ∧ m ≤ 16384 ∧ v8 = .slice ra m rc ∧ v9 = .int .i64 i ∧
      Hid (x.length = 9 ∧ raw.length = m ∧ (i = 0 → x = z9 ∧ raw = []) ∧ (0 < i → parseLs ls = withX x (runL (ls.drop i) i (ls.getD (i - 1) []) raw))) ∧
      Sat B (rprs bx (w.heap.size + 1) w.heap.size g off rc0 ls N x ra m rc raw L) wr)
    case atStart => exact ⟨0, z9, none, 0, 0, [], by omega, by omega, by omega, rfl, rfl, Lib.hid ⟨rfl, rfl, fun _ => ⟨rfl, rfl⟩, fun e => by omega⟩, hS3⟩
    case round =>
      obtain ⟨i, x, ra, m, rc, raw, hg1, hin, hm, rfl, rfl, Hx, hs1⟩ := hrel
      clear hS3
      have hs1 : Sat B (row 5 1 (.slice ra m rc) m (u8s raw) :: pt bx (.cells (setC x) 23) :: row 9 1 (.slice (some ⟨g, off, none⟩) N rc0) N (strL ls) :: pt (w.heap.size + 1) zF :: pt w.heap.size zC0 :: L) wr := hs1
      have crow := hs1.p2
      have hlt : i < ls.length := by rw [Hn.out.1]; omega
      obtain ⟨l, hl⟩ : ∃ l, ls[i]? = some l := ⟨_, List.getElem?_eq_getElem hlt⟩
      have hll : l.length ≤ 65536 := Hn.out.2 l (List.mem_of_getElem? hl)
      obtain ⟨sl, hsl⟩ : ∃ sl : ByteArray, sl = ⟨l.toArray⟩ := ⟨_, rfl⟩
      have hsz : sl.size ≤ 65536 := by rw [hsl]; exact hll
      have hsd : sl.data.toList = l := by rw [hsl]
      have c0 : wr.cell? ⟨g, off + i, none⟩ = some (.string sl) := rcell_at crow i _ (by simp [strL, hl, hsl])
      have hiN : (i : Int) < N := by omega
      by_cases hi : i < n
      · have hi' : (i : Int) < n := by omega
        by_cases hi0 : i = 0
        · subst hi0
          obtain ⟨rfl, rfl⟩ := Hx.out.2.2.1 rfl
          have hset := rsetup sl hsz hs1
          rw [hsd] at hset
          have hcons : ∃ l' t, ls = l :: l' :: t := by
            match ls, Hn.out.1, hl with
            | [], e, _ => simp at e; omega
            | [_], e, _ => simp at e; omega
            | a :: b :: t, _, e => simp at e; subst e; exact ⟨b, t, rfl⟩
          have hp : parseLs ls = match setupL l with | none => .error (15, 0) | some x => withX x (runL (ls.drop 1) 1 l []) := by
            obtain ⟨l', t, rfl⟩ := hcons
            rfl
          have Hps := Lib.hid (And.intro hp hl)
          have c0 : wr.cell? ⟨g, off, none⟩ = some (.string sl) := c0
          clear hcons hp hl hsd hsl crow hlt hnN
          go_wp2_with fail
          refine hset.mono ?_
          rintro e w3 ⟨a, b, c, d, e, f, gg, ii, j, ok, rfl, Hok, hS3⟩
          cases ok
          · have Hbad := Lib.hid (show parseLs ls = .error (15, 0) from (by have := Hps.out.1; rw [Hok.out] at this; exact this))
            have hSz := (hS3.alloc' (.cells #[.int .i64 a, .int .i64 b, .int .i64 c, .int .i64 d, .int .i64 e, .int .i64 f, .int .i64 gg, .int .i64 ii, .int .i64 j] 23) (n := w3.heap.size) rfl).p5
            clear hset
            go_wp2_with (first
              | ((with_reducible change wpList _ _ _ ({ dst := _, op := Op.store _ (.tmp 2) _, type := _, pos := _, after := _, guard := _ } :: _) _ _); (refine wpList_store_all (vs := #[.int .i64 0, .int .i64 0, .int .i64 0, .int .i64 0, .int .i64 0, .int .i64 0, .int .i64 0, .int .i64 0, .int .i64 0]) rfl (.tmp 2) _ rfl rfl rfl (by kernel_rfl) hSz rfl (by simp [Value.oneCell']) ?_); intro w8 hS8; have hSf := hS8.p5; go_frame)
              | ((with_reducible change wpList _ _ _ ({ dst := _, op := Op.store _ (.tmp 4) _, type := _, pos := _, after := _, guard := _ } :: _) _ _); (refine wpList_store_all (vs := #[.int .i64 15, .int .i64 0]) rfl (.tmp 4) _ rfl rfl rfl (by kernel_rfl) hSf rfl (by simp [Value.oneCell']) ?_); intro w9 hS9; have p7 := hS9.swap.pt_cell; have z0 := p7 0; have z1 := p7 1; have z2 := p7 2; have z3 := p7 3; have z4 := p7 4; have z5 := p7 5; have z6 := p7 6; have z7 := p7 7; have z8 := p7 8; have p8 := hS9.pt_cell; have y0 := p8 0; have y1 := p8 1; simp only [List.getElem?_toArray, List.getElem?_cons_zero, List.getElem?_cons_succ] at z0 z1 z2 z3 z4 z5 z6 z7 z8 y0 y1; clear p7 p8; go_frame))
            exact bodyPost_ret (v := .tuple #[zS, .slice none 0 0, .agg #[.int .i64 15, .int .i64 0]]) (by simp [results, Tryz.results8, go_sem, z0, z1, z2, z3, z4, z5, z6, z7, z8, y0, y1]) rfl (.inr ⟨15, 0, by rw [Hp.out, Hbad.out], rfl, hS9.drop.drop.drop.drop.drop.drop⟩)
          · have Hok2 := Lib.hid (show parseLs ls = withX [a, b, c, d, e, f, gg, ii, j] (runL (ls.drop 1) 1 l []) from (by have := Hps.out.1; rw [Hok.out] at this; exact this))
            have hSx := (hS3.alloc' (.cells #[.int .i64 a, .int .i64 b, .int .i64 c, .int .i64 d, .int .i64 e, .int .i64 f, .int .i64 gg, .int .i64 ii, .int .i64 j] 23) (n := w3.heap.size) rfl).p2
            clear hset
            go_wp2_with (((with_reducible change wpList _ _ _ ({ dst := _, op := Op.store _ (.tmp 7) _, type := _, pos := _, after := _, guard := _ } :: _) _ _); (refine wpList_store_all (vs := #[.int .i64 a, .int .i64 b, .int .i64 c, .int .i64 d, .int .i64 e, .int .i64 f, .int .i64 gg, .int .i64 ii, .int .i64 j]) rfl (.tmp 7) _ rfl rfl rfl (by kernel_rfl) hSx rfl (by simp [Value.oneCell']) ?_); intro w8 hS8; go_frame))
            go_roundg (gk - 1)
            case measure => omega
            case rel =>
              refine ⟨1, [a, b, c, d, e, f, gg, ii, j], ra, m, rc, [], by omega, by omega, by omega, rfl, rfl, Lib.hid ⟨rfl, Hx.out.2.1, fun e => by omega, fun _ => ?_⟩, hS8.swap.drop.swap⟩
              rw [Hok2.out]
              simp [List.getD, Hps.out.2]
        · have hi1 : 1 ≤ i := by omega
          have hpar := Hx.out.2.2.2 (by omega)
          obtain ⟨q, hq⟩ : ∃ q, ls[i - 1]? = some q := ⟨_, List.getElem?_eq_getElem (by omega : i - 1 < ls.length)⟩
          have hqd : ls.getD (i - 1) [] = q := by simp [List.getD, hq]
          obtain ⟨sq, hsq⟩ : ∃ sq : ByteArray, sq = ⟨q.toArray⟩ := ⟨_, rfl⟩
          have hsqz : sq.size = q.length := by rw [hsq]; rfl
          obtain ⟨i1, hi1d⟩ : ∃ i1, i - 1 = i1 := ⟨_, rfl⟩
          rw [hi1d] at hq
          have hi1e : (i : Int) - 1 = i1 := by omega
          have hi1N : (i1 : Int) < N := by omega
          have hun := runhex sl (by omega) hs1
          rw [hsd] at hun
          rw [hqd, run_step ls n i (by have := Hn.out.1; have := HnN.out; omega) hi q raw l hl] at hpar
          have hi0' : ¬ (i : Int) = 0 := by omega
          obtain ⟨ub, hub⟩ : ∃ ub, unhexL l = ub := ⟨_, rfl⟩
          rw [hub] at hun
          rw [stepL, hub] at hpar
          have Hpar := Lib.hid hpar
          have Hq := Lib.hid (And.intro hq hsq)
          have hul := unhex_length l
          rw [hub] at hul
          have Hl := Lib.hid hl
          clear hpar hq hsq hqd hub hl hsl hsd crow hlt hnN
          have hi1p : (0 : Int) ≤ i1 := by omega
          cases ub with
          | none =>
            have Hbad := Lib.hid (show parseLs ls = .error (15, i) from by rw [Hpar.out, stepB]; rfl)
            go_wp2_with (first
              | (go_at_call 30; refine hun.mono ?_; rintro e w3 ⟨rfl, hS3⟩; have hSz := hS3.p4; have cq2 : w3.cell? ⟨g, off + i1, none⟩ = some (.string sq) := rcell_at hS3.p2 i1 _ (by simp [strL, Hq.out.1, Hq.out.2]))
              | ((with_reducible change wpList _ _ _ ({ dst := _, op := Op.store _ (.tmp 2) _, type := _, pos := _, after := _, guard := _ } :: _) _ _); (refine wpList_store_all (vs := #[.int .i64 0, .int .i64 0, .int .i64 0, .int .i64 0, .int .i64 0, .int .i64 0, .int .i64 0, .int .i64 0, .int .i64 0]) rfl (.tmp 2) _ rfl rfl rfl (by kernel_rfl) hSz rfl (by simp [Value.oneCell']) ?_); intro w8 hS8; have hSf := hS8.p4; go_frame)
              | ((with_reducible change wpList _ _ _ ({ dst := _, op := Op.store _ (.tmp 4) _, type := _, pos := _, after := _, guard := _ } :: _) _ _); (refine wpList_store_all (vs := #[.int .i64 15, .int .i64 i]) rfl (.tmp 4) _ rfl rfl rfl (by kernel_rfl) hSf rfl (by simp [Value.oneCell']) ?_); intro w9 hS9; have p7 := hS9.swap.pt_cell; have z0 := p7 0; have z1 := p7 1; have z2 := p7 2; have z3 := p7 3; have z4 := p7 4; have z5 := p7 5; have z6 := p7 6; have z7 := p7 7; have z8 := p7 8; have p8 := hS9.pt_cell; have y0 := p8 0; have y1 := p8 1; simp only [List.getElem?_toArray, List.getElem?_cons_zero, List.getElem?_cons_succ] at z0 z1 z2 z3 z4 z5 z6 z7 z8 y0 y1; clear p7 p8; go_frame))
            exact bodyPost_ret (v := .tuple #[zS, .slice none 0 0, .agg #[.int .i64 15, .int .i64 i]]) (by simp [results, Tryz.results8, go_sem, z0, z1, z2, z3, z4, z5, z6, z7, z8, y0, y1]) rfl (.inr ⟨15, i, by rw [Hp.out, Hbad.out], rfl, hS9.drop.drop.drop.drop.drop⟩)
          | some b =>
            have hbl := hul b rfl
            clear hul
            by_cases hb0 : b = []
            · subst hb0
              have Hbad := Lib.hid (show parseLs ls = .error (15, i) from by rw [Hpar.out, stepB, if_pos (.inl rfl)]; rfl)
              go_wp2_with (first
                | (go_at_call 30; refine hun.mono ?_; rintro e w3 ⟨rfl, hS3⟩; have hSz := hS3.p4; have cq2 : w3.cell? ⟨g, off + i1, none⟩ = some (.string sq) := rcell_at hS3.p2 i1 _ (by simp [strL, Hq.out.1, Hq.out.2]))
                | ((with_reducible change wpList _ _ _ ({ dst := _, op := Op.store _ (.tmp 2) _, type := _, pos := _, after := _, guard := _ } :: _) _ _); (refine wpList_store_all (vs := #[.int .i64 0, .int .i64 0, .int .i64 0, .int .i64 0, .int .i64 0, .int .i64 0, .int .i64 0, .int .i64 0, .int .i64 0]) rfl (.tmp 2) _ rfl rfl rfl (by kernel_rfl) hSz rfl (by simp [Value.oneCell']) ?_); intro w8 hS8; have hSf := hS8.p4; go_frame)
                | ((with_reducible change wpList _ _ _ ({ dst := _, op := Op.store _ (.tmp 4) _, type := _, pos := _, after := _, guard := _ } :: _) _ _); (refine wpList_store_all (vs := #[.int .i64 15, .int .i64 i]) rfl (.tmp 4) _ rfl rfl rfl (by kernel_rfl) hSf rfl (by simp [Value.oneCell']) ?_); intro w9 hS9; have p7 := hS9.swap.pt_cell; have z0 := p7 0; have z1 := p7 1; have z2 := p7 2; have z3 := p7 3; have z4 := p7 4; have z5 := p7 5; have z6 := p7 6; have z7 := p7 7; have z8 := p7 8; have p8 := hS9.pt_cell; have y0 := p8 0; have y1 := p8 1; simp only [List.getElem?_toArray, List.getElem?_cons_zero, List.getElem?_cons_succ] at z0 z1 z2 z3 z4 z5 z6 z7 z8 y0 y1; clear p7 p8; go_frame))
              exact bodyPost_ret (v := .tuple #[zS, .slice none 0 0, .agg #[.int .i64 15, .int .i64 i]]) (by simp [results, Tryz.results8, go_sem, z0, z1, z2, z3, z4, z5, z6, z7, z8, y0, y1]) rfl (.inr ⟨15, i, by rw [Hp.out, Hbad.out], rfl, hS9.drop.drop.drop.drop.drop⟩)
            · have hbs : 1 ≤ b.length := List.length_pos_iff.2 hb0
              have hbz1 : ¬ (b.length : Int) < 1 := by omega
              by_cases hb32 : 32 < b.length
              · have hb33 : 32 < (b.length : Int) := by omega
                have Hbad := Lib.hid (show parseLs ls = .error (15, i) from by rw [Hpar.out, stepB, if_pos (.inr (.inl hb32))]; rfl)
                go_wp2_with (first
                  | (go_at_call 30; refine hun.mono ?_; rintro e w3 ⟨rfl, hS3⟩; have hSz := hS3.p4; have cq2 : w3.cell? ⟨g, off + i1, none⟩ = some (.string sq) := rcell_at hS3.p2 i1 _ (by simp [strL, Hq.out.1, Hq.out.2]))
                  | ((with_reducible change wpList _ _ _ ({ dst := _, op := Op.store _ (.tmp 2) _, type := _, pos := _, after := _, guard := _ } :: _) _ _); (refine wpList_store_all (vs := #[.int .i64 0, .int .i64 0, .int .i64 0, .int .i64 0, .int .i64 0, .int .i64 0, .int .i64 0, .int .i64 0, .int .i64 0]) rfl (.tmp 2) _ rfl rfl rfl (by kernel_rfl) hSz rfl (by simp [Value.oneCell']) ?_); intro w8 hS8; have hSf := hS8.p4; go_frame)
                  | ((with_reducible change wpList _ _ _ ({ dst := _, op := Op.store _ (.tmp 4) _, type := _, pos := _, after := _, guard := _ } :: _) _ _); (refine wpList_store_all (vs := #[.int .i64 15, .int .i64 i]) rfl (.tmp 4) _ rfl rfl rfl (by kernel_rfl) hSf rfl (by simp [Value.oneCell']) ?_); intro w9 hS9; have p7 := hS9.swap.pt_cell; have z0 := p7 0; have z1 := p7 1; have z2 := p7 2; have z3 := p7 3; have z4 := p7 4; have z5 := p7 5; have z6 := p7 6; have z7 := p7 7; have z8 := p7 8; have p8 := hS9.pt_cell; have y0 := p8 0; have y1 := p8 1; simp only [List.getElem?_toArray, List.getElem?_cons_zero, List.getElem?_cons_succ] at z0 z1 z2 z3 z4 z5 z6 z7 z8 y0 y1; clear p7 p8; go_frame))
                exact bodyPost_ret (v := .tuple #[zS, .slice none 0 0, .agg #[.int .i64 15, .int .i64 i]]) (by simp [results, Tryz.results8, go_sem, z0, z1, z2, z3, z4, z5, z6, z7, z8, y0, y1]) rfl (.inr ⟨15, i, by rw [Hp.out, Hbad.out], rfl, hS9.drop.drop.drop.drop.drop⟩)
              · have hb33 : ¬ 32 < (b.length : Int) := by omega
                obtain ⟨M1, hM1⟩ : ∃ M1, M1 = m + (⟨b.toArray⟩ : ByteArray).size := ⟨_, rfl⟩
                have hM2 : M1 = m + b.length := hM1
                have bM1 : M1 ≤ maxLen := by unfold maxLen; omega
                have bM2 : M1 ≤ 140737488355328 := by omega
                have hys : u8s (raw ++ b) = u8s raw ++ u8s (⟨b.toArray⟩ : ByteArray).data.toList := by simp [u8s]
                by_cases h1i : 1 < i
                · have h1i2 : 1 < (i : Int) := by omega
                  by_cases h64 : q.length = 64
                  · have h64' : (q.length : Int) = 64 := by omega
                    have hno : ¬ (b = [] ∨ 32 < b.length ∨ (1 < i ∧ q.length ≠ 64)) := by (rintro (h | h | ⟨_, h⟩); exact hb0 h; exact hb32 h; exact h (by omega))
                    by_cases hbig : 16384 < m + b.length
                    · --<M3
                      have hbig2 : (16384 : Int) < M1 := by omega
                      have Hbad := Lib.hid (show parseLs ls = .error (3, i) from by rw [Hpar.out, stepB, if_neg hno, if_pos (by rw [Hx.out.2.1]; exact hbig)]; rfl)
                      go_wp2_with (first
                        | (go_at_call 30; refine hun.mono ?_; rintro e w3 ⟨rfl, hS3⟩; have hSz := hS3.p4; have cq2 : w3.cell? ⟨g, off + i1, none⟩ = some (.string sq) := rcell_at hS3.p2 i1 _ (by simp [strL, Hq.out.1, Hq.out.2]))
                        | (at_builtin; (refine wpList_append_str rfl u8_elem 9 Tryz.underlying9 (.tmp 79) (.tmp 80) rfl _ ⟨b.toArray⟩ m M1 (u8s raw) (u8s (raw ++ b)) rfl rfl hS3 hM1 hys bM1 bM2 ?_); intro a4 c4 w7 hS7; have hSz := hS7.p4; go_frame)
                        | ((with_reducible change wpList _ _ _ ({ dst := _, op := Op.store _ (.tmp 2) _, type := _, pos := _, after := _, guard := _ } :: _) _ _); (refine wpList_store_all (vs := #[.int .i64 0, .int .i64 0, .int .i64 0, .int .i64 0, .int .i64 0, .int .i64 0, .int .i64 0, .int .i64 0, .int .i64 0]) rfl (.tmp 2) _ rfl rfl rfl (by kernel_rfl) hSz rfl (by simp [Value.oneCell']) ?_); intro w8 hS8; have hSf := hS8.p4; go_frame)
                        | ((with_reducible change wpList _ _ _ ({ dst := _, op := Op.store _ (.tmp 4) _, type := _, pos := _, after := _, guard := _ } :: _) _ _); (refine wpList_store_all (vs := #[.int .i64 3, .int .i64 i]) rfl (.tmp 4) _ rfl rfl rfl (by kernel_rfl) hSf rfl (by simp [Value.oneCell']) ?_); intro w9 hS9; have p7 := hS9.swap.pt_cell; have z0 := p7 0; have z1 := p7 1; have z2 := p7 2; have z3 := p7 3; have z4 := p7 4; have z5 := p7 5; have z6 := p7 6; have z7 := p7 7; have z8 := p7 8; have p8 := hS9.pt_cell; have y0 := p8 0; have y1 := p8 1; simp only [List.getElem?_toArray, List.getElem?_cons_zero, List.getElem?_cons_succ] at z0 z1 z2 z3 z4 z5 z6 z7 z8 y0 y1; clear p7 p8; go_frame))
                      exact bodyPost_ret (v := .tuple #[zS, .slice none 0 0, .agg #[.int .i64 3, .int .i64 i]]) (by simp [results, Tryz.results8, go_sem, z0, z1, z2, z3, z4, z5, z6, z7, z8, y0, y1]) rfl (.inr ⟨3, i, by rw [Hp.out, Hbad.out], rfl, hS9.drop.drop.drop.drop.drop⟩)
                    · --<M4
                      have Hok := Lib.hid (show parseLs ls = withX x (runL (ls.drop (i + 1)) (i + 1) l (raw ++ b)) from by rw [Hpar.out, stepB, if_neg hno, if_neg (by rw [Hx.out.2.1]; exact hbig)]; rfl)
                      have hbig2 : ¬ (16384 : Int) < M1 := by omega
                      go_wp2_with (first
                        | (go_at_call 30; refine hun.mono ?_; rintro e w3 ⟨rfl, hS3⟩; have hSz := hS3.p4; have cq2 : w3.cell? ⟨g, off + i1, none⟩ = some (.string sq) := rcell_at hS3.p2 i1 _ (by simp [strL, Hq.out.1, Hq.out.2]))
                        | (at_builtin; (refine wpList_append_str rfl u8_elem 9 Tryz.underlying9 (.tmp 79) (.tmp 80) rfl _ ⟨b.toArray⟩ m M1 (u8s raw) (u8s (raw ++ b)) rfl rfl hS3 hM1 hys bM1 bM2 ?_); intro a4 c4 w7 hS7; have hSz := hS7.p4; go_frame))
                      go_roundg (gk - 1)
                      case measure => omega
                      case rel =>
                        refine ⟨i + 1, x, _, M1, _, raw ++ b, by omega, by omega, by omega, by first | rfl | (rw [hM2]), by go_num, Lib.hid ⟨Hx.out.1, by rw [List.length_append, Hx.out.2.1, hM1]; rfl, fun e => by omega, fun _ => ?_⟩, hS7⟩
                        rw [Hok.out]; simp [List.getD, Hl.out]
                  · have h64' : ¬ (q.length : Int) = 64 := by omega
                    have h64m : ((q.length : Int) != 64) = true := by (simp; omega)
                    have Hbad := Lib.hid (show parseLs ls = .error (15, i) from by rw [Hpar.out, stepB, if_pos (.inr (.inr ⟨h1i, by omega⟩))]; rfl)
                    go_wp2_with (first
                      | (go_at_call 30; refine hun.mono ?_; rintro e w3 ⟨rfl, hS3⟩; have hSz := hS3.p4; have cq2 : w3.cell? ⟨g, off + i1, none⟩ = some (.string sq) := rcell_at hS3.p2 i1 _ (by simp [strL, Hq.out.1, Hq.out.2]))
                      | ((with_reducible change wpList _ _ _ ({ dst := _, op := Op.store _ (.tmp 2) _, type := _, pos := _, after := _, guard := _ } :: _) _ _); (refine wpList_store_all (vs := #[.int .i64 0, .int .i64 0, .int .i64 0, .int .i64 0, .int .i64 0, .int .i64 0, .int .i64 0, .int .i64 0, .int .i64 0]) rfl (.tmp 2) _ rfl rfl rfl (by kernel_rfl) hSz rfl (by simp [Value.oneCell']) ?_); intro w8 hS8; have hSf := hS8.p4; go_frame)
                      | ((with_reducible change wpList _ _ _ ({ dst := _, op := Op.store _ (.tmp 4) _, type := _, pos := _, after := _, guard := _ } :: _) _ _); (refine wpList_store_all (vs := #[.int .i64 15, .int .i64 i]) rfl (.tmp 4) _ rfl rfl rfl (by kernel_rfl) hSf rfl (by simp [Value.oneCell']) ?_); intro w9 hS9; have p7 := hS9.swap.pt_cell; have z0 := p7 0; have z1 := p7 1; have z2 := p7 2; have z3 := p7 3; have z4 := p7 4; have z5 := p7 5; have z6 := p7 6; have z7 := p7 7; have z8 := p7 8; have p8 := hS9.pt_cell; have y0 := p8 0; have y1 := p8 1; simp only [List.getElem?_toArray, List.getElem?_cons_zero, List.getElem?_cons_succ] at z0 z1 z2 z3 z4 z5 z6 z7 z8 y0 y1; clear p7 p8; go_frame))
                    exact bodyPost_ret (v := .tuple #[zS, .slice none 0 0, .agg #[.int .i64 15, .int .i64 i]]) (by simp [results, Tryz.results8, go_sem, z0, z1, z2, z3, z4, z5, z6, z7, z8, y0, y1]) rfl (.inr ⟨15, i, by rw [Hp.out, Hbad.out], rfl, hS9.drop.drop.drop.drop.drop⟩)
                · have h1i2 : ¬ 1 < (i : Int) := by omega
                  have hno : ¬ (b = [] ∨ 32 < b.length ∨ (1 < i ∧ q.length ≠ 64)) := by (rintro (h | h | ⟨h, _⟩); exact hb0 h; exact hb32 h; exact h1i h)
                  by_cases hbig : 16384 < m + b.length
                  · --<M6
                    have hbig2 : (16384 : Int) < M1 := by omega
                    have Hbad := Lib.hid (show parseLs ls = .error (3, i) from by rw [Hpar.out, stepB, if_neg hno, if_pos (by rw [Hx.out.2.1]; exact hbig)]; rfl)
                    go_wp2_with (first
                      | (go_at_call 30; refine hun.mono ?_; rintro e w3 ⟨rfl, hS3⟩; have hSz := hS3.p4; have cq2 : w3.cell? ⟨g, off + i1, none⟩ = some (.string sq) := rcell_at hS3.p2 i1 _ (by simp [strL, Hq.out.1, Hq.out.2]))
                      | (at_builtin; (refine wpList_append_str rfl u8_elem 9 Tryz.underlying9 (.tmp 79) (.tmp 80) rfl _ ⟨b.toArray⟩ m M1 (u8s raw) (u8s (raw ++ b)) rfl rfl hS3 hM1 hys bM1 bM2 ?_); intro a4 c4 w7 hS7; have hSz := hS7.p4; go_frame)
                      | ((with_reducible change wpList _ _ _ ({ dst := _, op := Op.store _ (.tmp 2) _, type := _, pos := _, after := _, guard := _ } :: _) _ _); (refine wpList_store_all (vs := #[.int .i64 0, .int .i64 0, .int .i64 0, .int .i64 0, .int .i64 0, .int .i64 0, .int .i64 0, .int .i64 0, .int .i64 0]) rfl (.tmp 2) _ rfl rfl rfl (by kernel_rfl) hSz rfl (by simp [Value.oneCell']) ?_); intro w8 hS8; have hSf := hS8.p4; go_frame)
                      | ((with_reducible change wpList _ _ _ ({ dst := _, op := Op.store _ (.tmp 4) _, type := _, pos := _, after := _, guard := _ } :: _) _ _); (refine wpList_store_all (vs := #[.int .i64 3, .int .i64 i]) rfl (.tmp 4) _ rfl rfl rfl (by kernel_rfl) hSf rfl (by simp [Value.oneCell']) ?_); intro w9 hS9; have p7 := hS9.swap.pt_cell; have z0 := p7 0; have z1 := p7 1; have z2 := p7 2; have z3 := p7 3; have z4 := p7 4; have z5 := p7 5; have z6 := p7 6; have z7 := p7 7; have z8 := p7 8; have p8 := hS9.pt_cell; have y0 := p8 0; have y1 := p8 1; simp only [List.getElem?_toArray, List.getElem?_cons_zero, List.getElem?_cons_succ] at z0 z1 z2 z3 z4 z5 z6 z7 z8 y0 y1; clear p7 p8; go_frame))
                    exact bodyPost_ret (v := .tuple #[zS, .slice none 0 0, .agg #[.int .i64 3, .int .i64 i]]) (by simp [results, Tryz.results8, go_sem, z0, z1, z2, z3, z4, z5, z6, z7, z8, y0, y1]) rfl (.inr ⟨3, i, by rw [Hp.out, Hbad.out], rfl, hS9.drop.drop.drop.drop.drop⟩)
                  · --<M7
                    have Hok := Lib.hid (show parseLs ls = withX x (runL (ls.drop (i + 1)) (i + 1) l (raw ++ b)) from by rw [Hpar.out, stepB, if_neg hno, if_neg (by rw [Hx.out.2.1]; exact hbig)]; rfl)
                    have hbig2 : ¬ (16384 : Int) < M1 := by omega
                    go_wp2_with (first
                      | (go_at_call 30; refine hun.mono ?_; rintro e w3 ⟨rfl, hS3⟩; have hSz := hS3.p4; have cq2 : w3.cell? ⟨g, off + i1, none⟩ = some (.string sq) := rcell_at hS3.p2 i1 _ (by simp [strL, Hq.out.1, Hq.out.2]))
                      | (at_builtin; (refine wpList_append_str rfl u8_elem 9 Tryz.underlying9 (.tmp 79) (.tmp 80) rfl _ ⟨b.toArray⟩ m M1 (u8s raw) (u8s (raw ++ b)) rfl rfl hS3 hM1 hys bM1 bM2 ?_); intro a4 c4 w7 hS7; have hSz := hS7.p4; go_frame))
                    go_roundg (gk - 1)
                    case measure => omega
                    case rel =>
                      refine ⟨i + 1, x, _, M1, _, raw ++ b, by omega, by omega, by omega, by first | rfl | (rw [hM2]), by go_num, Lib.hid ⟨Hx.out.1, by rw [List.length_append, Hx.out.2.1, hM1]; rfl, fun e => by omega, fun _ => ?_⟩, hS7⟩
                      rw [Hok.out]; simp [List.getD, Hl.out]
      · obtain rfl : i = n := by omega
        by_cases hi0 : i = 0
        · have Hbad := Lib.hid (show parseLs ls = .error (15, 0) by
            have hh := Hn.out.1
            match ls, hh with
            | [], e => rfl
            | [_], e => rfl
            | _ :: _ :: _, e => simp at e; omega)
          have hi0' : (i : Int) = 0 := by omega
          have hSz := hs1.p4
          clear hlt hl hsl hsd c0
          go_wp2_with (first
            | ((with_reducible change wpList _ _ _ ({ dst := _, op := Op.store _ (.tmp 2) _, type := _, pos := _, after := _, guard := _ } :: _) _ _); (refine wpList_store_all (vs := #[.int .i64 0, .int .i64 0, .int .i64 0, .int .i64 0, .int .i64 0, .int .i64 0, .int .i64 0, .int .i64 0, .int .i64 0]) rfl (.tmp 2) _ rfl rfl rfl (by kernel_rfl) hSz rfl (by simp [Value.oneCell']) ?_); intro w8 hS8; have hSf := hS8.p4; go_frame)
            | ((with_reducible change wpList _ _ _ ({ dst := _, op := Op.store _ (.tmp 4) _, type := _, pos := _, after := _, guard := _ } :: _) _ _); (refine wpList_store_all (vs := #[.int .i64 15, .int .i64 0]) rfl (.tmp 4) _ rfl rfl rfl (by kernel_rfl) hSf rfl (by simp [Value.oneCell']) ?_); intro w9 hS9; have p7 := hS9.swap.pt_cell; have z0 := p7 0; have z1 := p7 1; have z2 := p7 2; have z3 := p7 3; have z4 := p7 4; have z5 := p7 5; have z6 := p7 6; have z7 := p7 7; have z8 := p7 8; have p8 := hS9.pt_cell; have y0 := p8 0; have y1 := p8 1; simp only [List.getElem?_toArray, List.getElem?_cons_zero, List.getElem?_cons_succ] at z0 z1 z2 z3 z4 z5 z6 z7 z8 y0 y1; clear p7 p8; go_frame))
          exact bodyPost_ret (v := .tuple #[zS, .slice none 0 0, .agg #[.int .i64 15, .int .i64 0]]) (by simp [results, Tryz.results8, go_sem, z0, z1, z2, z3, z4, z5, z6, z7, z8, y0, y1]) rfl (.inr ⟨15, 0, by rw [Hp.out, Hbad.out], rfl, hS9.drop.drop.drop.drop.drop⟩)
        · have hpar := Hx.out.2.2.2 (by omega)
          rw [run_last ls i i (by rw [Hn.out.1]; omega) rfl _ _ l hl] at hpar
          have Hpar := Lib.hid hpar
          have hi0' : ¬ (i : Int) = 0 := by omega
          clear hpar hlt hl hsl
          by_cases hle : l = []
          · have hsn : sl.toList.isEmpty = true := by rw [show sl.toList = l from (Lib.toList_data _).trans hsd, hle]; rfl
            have hsn2 : sl.toList = [] := by rw [show sl.toList = l from (Lib.toList_data _).trans hsd, hle]
            have Hok := Lib.hid (show parseLs ls = .ok (x, raw) by rw [Hpar.out, if_pos hle]; rfl)
            obtain ⟨a, b, c, d, e, f, gg, ii, j, rfl⟩ := list9 x Hx.out.1
            have hSx := hs1.swap
            have p5 := hSx.pt_cell
            have q0 := p5 0; have q1 := p5 1; have q2 := p5 2; have q3 := p5 3; have q4 := p5 4; have q5 := p5 5; have q6 := p5 6; have q7 := p5 7; have q8 := p5 8
            simp only [setC, List.map, List.getElem?_toArray, List.getElem?_cons_zero, List.getElem?_cons_succ] at q0 q1 q2 q3 q4 q5 q6 q7 q8
            have hSz := hs1.p4
            have hrl := Hx.out.2.1
            have Hrl := Lib.hid hrl
            clear p5 hSx hrl
            go_wp2_with (first
              | ((with_reducible change wpList _ _ _ ({ dst := _, op := Op.store _ (.tmp 2) _, type := _, pos := _, after := _, guard := _ } :: _) _ _); (refine wpList_store_all (vs := #[.int .i64 a, .int .i64 b, .int .i64 c, .int .i64 d, .int .i64 e, .int .i64 f, .int .i64 gg, .int .i64 ii, .int .i64 j]) rfl (.tmp 2) _ rfl rfl rfl (by kernel_rfl) hSz rfl (by simp [Value.oneCell']) ?_); intro w8 hS8; have hSf := hS8.p4; go_frame)
              | ((with_reducible change wpList _ _ _ ({ dst := _, op := Op.store _ (.tmp 4) _, type := _, pos := _, after := _, guard := _ } :: _) _ _); (refine wpList_store_all (vs := #[.int .i64 0, .int .i64 0]) rfl (.tmp 4) _ rfl rfl rfl (by kernel_rfl) hSf rfl (by simp [Value.oneCell']) ?_); intro w9 hS9; have p7 := hS9.swap.pt_cell; have z0 := p7 0; have z1 := p7 1; have z2 := p7 2; have z3 := p7 3; have z4 := p7 4; have z5 := p7 5; have z6 := p7 6; have z7 := p7 7; have z8 := p7 8; have p8 := hS9.pt_cell; have y0 := p8 0; have y1 := p8 1; simp only [List.getElem?_toArray, List.getElem?_cons_zero, List.getElem?_cons_succ] at z0 z1 z2 z3 z4 z5 z6 z7 z8 y0 y1; clear p7 p8; go_frame))
            exact bodyPost_ret (v := .tuple #[.agg #[.int .i64 a, .int .i64 b, .int .i64 c, .int .i64 d, .int .i64 e, .int .i64 f, .int .i64 gg, .int .i64 ii, .int .i64 j], .slice ra m rc, .agg #[.int .i64 0, .int .i64 0]]) (by simp [results, Tryz.results8, go_sem, z0, z1, z2, z3, z4, z5, z6, z7, z8, y0, y1]) rfl (.inl ⟨a, b, c, d, e, f, gg, ii, j, raw, ra, m, rc, by rw [Hp.out, Hok.out], rfl, Hrl.out, hS9.drop.drop.swap.drop.swap.drop⟩)
          · have hsn2 : sl.toList ≠ [] := by rw [show sl.toList = l from (Lib.toList_data _).trans hsd]; exact hle
            have hsn : sl.toList.isEmpty = false := by (cases h : sl.toList with | nil => exact absurd h hsn2 | cons _ _ => rfl)
            have hSz := hs1.p4
            have Hbad := Lib.hid (show parseLs ls = .error (15, i) from by rw [Hpar.out, if_neg hle]; rfl)
            go_wp2_with (first
              | ((with_reducible change wpList _ _ _ ({ dst := _, op := Op.store _ (.tmp 2) _, type := _, pos := _, after := _, guard := _ } :: _) _ _); (refine wpList_store_all (vs := #[.int .i64 0, .int .i64 0, .int .i64 0, .int .i64 0, .int .i64 0, .int .i64 0, .int .i64 0, .int .i64 0, .int .i64 0]) rfl (.tmp 2) _ rfl rfl rfl (by kernel_rfl) hSz rfl (by simp [Value.oneCell']) ?_); intro w8 hS8; have hSf := hS8.p4; go_frame)
              | ((with_reducible change wpList _ _ _ ({ dst := _, op := Op.store _ (.tmp 4) _, type := _, pos := _, after := _, guard := _ } :: _) _ _); (refine wpList_store_all (vs := #[.int .i64 15, .int .i64 i]) rfl (.tmp 4) _ rfl rfl rfl (by kernel_rfl) hSf rfl (by simp [Value.oneCell']) ?_); intro w9 hS9; have p7 := hS9.swap.pt_cell; have z0 := p7 0; have z1 := p7 1; have z2 := p7 2; have z3 := p7 3; have z4 := p7 4; have z5 := p7 5; have z6 := p7 6; have z7 := p7 7; have z8 := p7 8; have p8 := hS9.pt_cell; have y0 := p8 0; have y1 := p8 1; simp only [List.getElem?_toArray, List.getElem?_cons_zero, List.getElem?_cons_succ] at z0 z1 z2 z3 z4 z5 z6 z7 z8 y0 y1; clear p7 p8; go_frame))
            exact bodyPost_ret (v := .tuple #[zS, .slice none 0 0, .agg #[.int .i64 15, .int .i64 i]]) (by simp [results, Tryz.results8, go_sem, z0, z1, z2, z3, z4, z5, z6, z7, z8, y0, y1]) rfl (.inr ⟨15, i, by rw [Hp.out, Hbad.out], rfl, hS9.drop.drop.drop.drop.drop⟩)
end
end Go.Proofs.YtjfnkglppldfnaaGreatDoor
