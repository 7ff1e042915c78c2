/-
  Script: the document's setup: contract.
-/
import Derived.Test.YtjfnkglppldfnaaGreatDoorScrG
namespace Go.Proofs.YtjfnkglppldfnaaGreatDoor
set_option linter.all false
open Go.RowKit
section
variable {B w : World} {L : List HP}
abbrev zC0 : Obj := .cells #[.int .i64 0, .int .i64 0, .int .i64 0, .int .i64 0, .int .i64 0, .int .i64 0, .int .i64 0, .int .i64 0, .int .i64 0] 23
/-- What the document's setup answers. -/
def setRes (s : Bs) (B : World) (L : List HP) (y : Ending) (w' : World) : Prop :=
  ∃ (a b c d e f g i j : Int) (ok : Bool), y = .returned (.tuple #[.agg #[.int .i64 a, .int .i64 b, .int .i64 c, .int .i64 d, .int .i64 e, .int .i64 f, .int .i64 g, .int .i64 i, .int .i64 j], .bool ok]) ∧
    Hid (setupL s = if ok = true then some [a, b, c, d, e, f, g, i, j] else none) ∧ Sat B L w'
set_option maxHeartbeats 4000000 in
set_option maxRecDepth 100000 in
theorem rsetup (s : ByteArray) (hs : s.size ≤ 65536) (h : Sat B L w) : Calls Tryz.prog 29 #[.string s] w (setRes s.data.toList B L) := by
  have h0 := h.alloc' zC0 (n := w.heap.size) rfl
  have hsp := rsplit s 32 (by omega) h0
  obtain ⟨ws, hws⟩ : ∃ ws, splL 32 s.data.toList = ws := ⟨_, rfl⟩
  rw [show (((32 : UInt8).toNat : Nat) : Int) = 32 from rfl, hws] at hsp
  have hset : setupL s.data.toList = setupW ws := by rw [setupL, hws]
  have hlen : ∀ p ∈ ws, p.length ≤ 65536 := fun p hp => by
    have := (splL_mem 32 s.data.toList p (by rw [hws]; exact hp)).1
    have e : s.data.toList.length = s.size := by rw [Array.length_toList]; rfl
    omega
  by_cases h10 : ws.length = 10
  · obtain ⟨w0, r, rfl⟩ : ∃ w0 r, ws = w0 :: r := by
      cases ws with
      | nil => simp at h10
      | cons a r => exact ⟨a, r, rfl⟩
    have hr9 : r.length = 9 := by simpa using h10
    simp only [setupW, hr9, and_true] at hset
    obtain ⟨s0, hs0⟩ : ∃ s0 : ByteArray, s0 = ⟨w0.toArray⟩ := ⟨_, rfl⟩
    by_cases hw0 : w0 = [115, 101, 116, 117, 112]
    · rw [if_pos hw0, setup_doc r hr9] at hset
      have hne : (!s0.toList == [115, 101, 116, 117, 112]) = false := by
        rw [ByteArray.toList_eq, hs0]; simpa using hw0
      have Hset := Lib.hid hset
      have Hw := Lib.hid hs0
      have Hr9 := Lib.hid (And.intro hr9 hlen)
      have H10 := Lib.hid h10
      clear hset hws hr9 hs0 hlen h10 hw0 h0
      go_enter Tryz.func29, Tryz.ntmps29
      go_wp2_with (first
        | (go_at_call 28; refine hsp.mono ?_; rintro e w1 ⟨ra, n, rc, hn, rfl, hS1⟩; rw [H10.out] at hn; subst hn;
            obtain ⟨g0, off, rfl⟩ : ∃ g0 off, ra = some ⟨g0, off, none⟩ := (by rcases hS1.row_form with ⟨_, h, _⟩ | ⟨g, o, _, h, _⟩; cases h; cases h; exact ⟨_, _, rfl⟩);
            have c0 : w1.cell? ⟨g0, off, none⟩ = some (.string s0) := (by rw [Hw.out]; exact rcell_at hS1 0 _ rfl)))
      obtain ⟨b1, hb1⟩ : ∃ b1, w1.heap.size = b1 := ⟨_, rfl⟩
      have hS2 := hS1.alloc' (.cells #[.int .i64 0, .int .i64 0, .int .i64 0, .int .i64 0, .int .i64 0, .int .i64 0, .int .i64 0, .int .i64 0, .int .i64 0, .int .i64 0] 117) (n := b1) hb1.symm
      rw [hb1]
      clear h hsp c0 hne hS1 hb1
      go_loopg [6] 9 (fun gh v6 wr => ∃ (i k : Nat) (vs : List Int), i = k + 1 ∧ k + gh ≤ 9 ∧ 9 ≤ k + gh ∧ v6 = .int .i64 i ∧ Hid (vs.length = k ∧ vs = (r.take k).map numberL) ∧
        Sat B (pt b1 (.cells (ints64 (arrT vs)).toArray 117) :: row 9 1 (.slice (some ⟨g0, off, none⟩) 10 rc) 10 (strL (w0 :: r)) :: pt w.heap.size zC0 :: L) wr)
      case atStart => exact ⟨1, 0, [], rfl, by omega, by omega, rfl, Lib.hid ⟨rfl, rfl⟩, hS2⟩
      case round =>
        obtain ⟨i, k, vs, hik, hg1, hg2, rfl, Hv, hs1⟩ := hrel
        clear hS2
        by_cases hk : k < 9
        · have hkr : k < r.length := by rw [Hr9.out.1]; exact hk
          obtain ⟨p, hp⟩ : ∃ p, r[k] = p := ⟨_, rfl⟩
          have hpk : r[k]? = some p := by rw [List.getElem?_eq_getElem hkr, hp]
          have hpl : p.length ≤ 65536 := Hr9.out.2 p (by rw [← hp]; exact List.mem_cons_of_mem _ (List.getElem_mem hkr))
          obtain ⟨sp, hsp⟩ : ∃ sp : ByteArray, sp = ⟨p.toArray⟩ := ⟨_, rfl⟩
          have hspl : sp.data.toList = p := by rw [hsp]
          have c1 : wr.cell? ⟨g0, off + i, none⟩ = some (.string sp) := rcell_at hs1.swap i (.string sp) (by rw [hsp, hik]; simp [strL, hpk])
          have hnum := rnumber sp (by rw [hsp]; show p.length ≤ _; omega)
          rw [hspl] at hnum
          obtain ⟨u, hu⟩ : ∃ u, numberL p = u := ⟨_, rfl⟩
          rw [hu] at hnum
          have hk3 : (i : Int) < 10 := by omega
          have f4 := hs1.pt_free i
          obtain ⟨v4, c4⟩ : ∃ v, wr.cell? ⟨b1, i, none⟩ = some v := ⟨_, (hs1.pt_cell i).trans (by rw [arrT_at vs i (by omega)])⟩
          have Hp := Lib.hid (And.intro hpk hu)
          have Hik := Lib.hid hik
          clear hp hpk hsp hspl hpl hkr hu hik
          go_wp2_with (go_at_call 62; refine (hnum _).mono ?_; rintro e w' ⟨rfl, rfl⟩)
          go_roundg (gk - 1)
          case measure => omega
          case rel =>
            have hik := Hik.out
            have hS5 := hs1.set (j := i) (.int .i64 u)
            have hk9 := Hv.out.1
            rw [hik, ← hk9, arrT_set vs u (by omega), hk9] at hS5
            refine ⟨i + 1, k + 1, vs ++ [u], by omega, by omega, by omega, by go_num, Lib.hid ⟨by simp [hk9], ?_⟩, by rw [hik]; exact hS5⟩
            rw [List.take_add_one, Hp.out.1, List.map_append, ← Hv.out.2]
            simp [Hp.out.2]
        · obtain rfl : k = 9 := by omega
          obtain rfl : i = 10 := by omega
          obtain ⟨a, b, c, d, e, f, g, ii, j, rfl⟩ := list9 vs Hv.out.1
          have hnums : r.map numberL = [a, b, c, d, e, f, g, ii, j] := by
            have := Hv.out.2
            rw [List.take_of_length_le (by rw [Hr9.out.1]; exact Nat.le_refl _)] at this
            exact this.symm
          have hs1 : Sat B (pt b1 (.cells #[.int .i64 0, .int .i64 a, .int .i64 b, .int .i64 c, .int .i64 d, .int .i64 e, .int .i64 f, .int .i64 g, .int .i64 ii, .int .i64 j] 117) :: row 9 1 (.slice (some ⟨g0, off, none⟩) 10 rc) 10 (strL (w0 :: r)) :: pt w.heap.size zC0 :: L) wr := hs1
          have p5 := hs1.pt_cell
          have q1 := p5 1; have q2 := p5 2; have q3 := p5 3; have q4 := p5 4; have q5 := p5 5; have q6 := p5 6; have q7 := p5 7; have q8 := p5 8; have q9 := p5 9
          simp only [List.getElem?_toArray, List.getElem?_cons_zero, List.getElem?_cons_succ] at q1 q2 q3 q4 q5 q6 q7 q8 q9
          rw [hnums] at Hset
          clear p5 hnums hk hik
          have hs2 := hs1.alloc' (.cells #[.int .i64 a, .int .i64 b, .int .i64 c, .int .i64 d, .int .i64 e, .int .i64 f, .int .i64 g, .int .i64 ii, .int .i64 j] 23) (n := wr.heap.size) rfl
          have hmy := rmay a b c d e f g ii j (hs2.drew)
          obtain ⟨ok, hok⟩ : ∃ ok, mayL [a, b, c, d, e, f, g, ii, j] = ok := ⟨_, rfl⟩
          rw [hok] at hmy Hset
          go_wp2_with fail
          go_region_with (go_at_call 63; refine hmy.mono ?_; rintro e5 w5 ⟨rfl, hS5⟩; have p6 := hS5.pt_cell; have r0 := p6 0; have r1 := p6 1; have r2 := p6 2; have r3 := p6 3; have r4 := p6 4; have r5 := p6 5; have r6 := p6 6; have r7 := p6 7; have r8 := p6 8; have p7 := hS5.p3.pt_cell; have z0 := p7 0; have z1 := p7 1; have z2 := p7 2; have z3 := p7 3; have z4 := p7 4; have z5 := p7 5; have z6 := p7 6; have z7 := p7 7; have z8 := p7 8; simp only [List.getElem?_toArray, List.getElem?_cons_zero, List.getElem?_cons_succ] at r0 r1 r2 r3 r4 r5 r6 r7 r8 z0 z1 z2 z3 z4 z5 z6 z7 z8; have f7 := hS5.p3.pt_free; clear p6 p7)
          all_goals
            go_wp2_with fail
            refine bodyPost_ret (v := .tuple #[.agg #[.int .i64 a, .int .i64 b, .int .i64 c, .int .i64 d, .int .i64 e, .int .i64 f, .int .i64 g, .int .i64 ii, .int .i64 j], .bool ok]) (by simp [results, Tryz.results29, go_sem, z0, z1, z2, z3, z4, z5, z6, z7, z8]) rfl ⟨a, b, c, d, e, f, g, ii, j, ok, rfl, Hset, ?_⟩
            exact ((((((((hS5.p3.set (j := 0) _).set (j := 1) _).set (j := 2) _).set (j := 3) _).set (j := 4) _).set (j := 5) _).set (j := 6) _).set (j := 7) _).set (j := 8) _ |>.drop.drop.drop.drop
    · rw [if_neg hw0] at hset
      have hne : (!s0.toList == [115, 101, 116, 117, 112]) = true := by
        rw [ByteArray.toList_eq, hs0]; simpa using hw0
      have Hset := Lib.hid hset
      have Hw := Lib.hid hs0
      have H10 := Lib.hid h10
      clear hset hws hr9 hs0 h10 hlen h0
      go_enter Tryz.func29, Tryz.ntmps29
      go_wp2_with (first
        | (go_at_call 28; refine hsp.mono ?_; rintro e w1 ⟨ra, n, rc, hn, rfl, hS1⟩; rw [H10.out] at hn; subst hn;
            obtain ⟨g0, off, rfl⟩ : ∃ g0 off, ra = some ⟨g0, off, none⟩ := (by rcases hS1.row_form with ⟨_, h, _⟩ | ⟨g, o, _, h, _⟩; cases h; cases h; exact ⟨_, _, rfl⟩);
            have c0 : w1.cell? ⟨g0, off, none⟩ = some (.string s0) := (by rw [Hw.out]; exact rcell_at hS1 0 _ rfl);
            have p7 := hS1.swap.pt_cell; have z0 := p7 0; have z1 := p7 1; have z2 := p7 2; have z3 := p7 3; have z4 := p7 4; have z5 := p7 5; have z6 := p7 6; have z7 := p7 7; have z8 := p7 8; simp only [List.getElem?_toArray, List.getElem?_cons_zero, List.getElem?_cons_succ] at z0 z1 z2 z3 z4 z5 z6 z7 z8; have f7 := hS1.swap.pt_free; clear p7))
      refine bodyPost_ret (v := .tuple #[.agg #[.int .i64 0, .int .i64 0, .int .i64 0, .int .i64 0, .int .i64 0, .int .i64 0, .int .i64 0, .int .i64 0, .int .i64 0], .bool false]) (by simp [results, Tryz.results29, go_sem, z0, z1, z2, z3, z4, z5, z6, z7, z8]) rfl ⟨0, 0, 0, 0, 0, 0, 0, 0, 0, false, rfl, Hset, ?_⟩
      exact ((((((((hS1.swap.set (j := 0) _).set (j := 1) _).set (j := 2) _).set (j := 3) _).set (j := 4) _).set (j := 5) _).set (j := 6) _).set (j := 7) _).set (j := 8) _ |>.drop.drop
  · have hset : setupL s.data.toList = none := by
      rw [hset]
      cases ws with
      | nil => rfl
      | cons a r => rw [setupW, if_neg (fun e => h10 (by simp [e.2]))]
    have Hset := Lib.hid hset
    clear hset hws hlen h0
    go_enter Tryz.func29, Tryz.ntmps29
    go_wp2_with (first
      | (go_at_call 28; refine hsp.mono ?_; rintro e w1 ⟨ra, n, rc, hn, rfl, hS1⟩;
          have hn10 : ¬ (n : Int) = 10 := (by omega);
          have p7 := hS1.swap.pt_cell; have z0 := p7 0; have z1 := p7 1; have z2 := p7 2; have z3 := p7 3; have z4 := p7 4; have z5 := p7 5; have z6 := p7 6; have z7 := p7 7; have z8 := p7 8; simp only [List.getElem?_toArray, List.getElem?_cons_zero, List.getElem?_cons_succ] at z0 z1 z2 z3 z4 z5 z6 z7 z8; have f7 := hS1.swap.pt_free; clear p7))
    refine bodyPost_ret (v := .tuple #[.agg #[.int .i64 0, .int .i64 0, .int .i64 0, .int .i64 0, .int .i64 0, .int .i64 0, .int .i64 0, .int .i64 0, .int .i64 0], .bool false]) (by simp [results, Tryz.results29, go_sem, z0, z1, z2, z3, z4, z5, z6, z7, z8]) rfl ⟨0, 0, 0, 0, 0, 0, 0, 0, 0, false, rfl, Hset, ?_⟩
    exact ((((((((hS1.swap.set (j := 0) _).set (j := 1) _).set (j := 2) _).set (j := 3) _).set (j := 4) _).set (j := 5) _).set (j := 6) _).set (j := 7) _).set (j := 8) _ |>.drop.drop
end
end Go.Proofs.YtjfnkglppldfnaaGreatDoor
