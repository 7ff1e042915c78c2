/-
  Script: setup: a setup's line is read, or given up.
-/
import Derived.Test.YtcjindifdghpgaaGreatDoorScrU
import Derived.Test.YtcjindifdghpgaaGreatDoorScr2
namespace Go.Proofs.YtcjindifdghpgaaGreatDoor
open Go.RowKit
section
variable {B w : World} {L : List HP}
theorem row_cell_at {e : TypeId} {n c g off : Nat} {xs : List Value} (h : Sat B (row e 1 (.slice (some ⟨g, off, none⟩) n c) n xs :: L) w) (j : Nat) (v : Value) (hv : xs[j]? = some v) : w.cell? ⟨g, off + j, none⟩ = some v := by
  rcases h.row_form with ⟨hx, _⟩ | ⟨g', off', cap, hx, _, _, _, _, hc, _⟩
  · cases hx
  · cases hx; exact hc j v hv
def arrL (vs : List Int) : List Int := vs ++ List.replicate (9 - vs.length) 0
theorem arrL_at (vs : List Int) (k : Nat) (hk : k < 9) : (ints64 (arrL vs)).toArray[k]? = some (.int .i64 ((arrL vs).getD k 0)) := by
  have hl : k < (arrL vs).length := by simp [arrL]; omega
  simp [ints64, hl]
theorem arrL_set (vs : List Int) (u : Int) (h : vs.length < 9) : (ints64 (arrL vs)).toArray.setIfInBounds vs.length (.int .i64 u) = (ints64 (arrL (vs ++ [u]))).toArray := by
  have e : 9 - vs.length = (9 - (vs ++ [u]).length) + 1 := by simp; omega
  apply Array.ext'
  simp only [Array.toList_setIfInBounds, ints64, arrL, e, List.replicate_succ, List.map_append, List.map_cons]
  rw [List.set_append_right _ _ (by simp)]
  simp
/-- What is given up. -/
abbrev gave (c : Int) : Value := .iface 108 (.agg #[.int .i64 c])
abbrev gives (c : Int) : Ending := .panicked [{ v := gave c, recovered := false }]
theorem pgive (c : Int) (w : World) : Calls Tryz.prog 31 #[.int .i64 c] w fun e w' => e = gives c ∧ w' = w := by
  go_enter Tryz.func31, Tryz.ntmps31
  go_wp2_with fail
  exact ⟨rfl, rfl, rfl⟩
set_option maxHeartbeats 4000000 in
set_option maxRecDepth 100000 in
theorem psetup (hE : Env B) (h : Sat B L w) (s : ByteArray) (hs : s.size ≤ 65536) :
    Calls Tryz.prog 29 #[.string s] w fun y w' => ((∃ a b c d e f g i j : Int, setupL s.data.toList = some [a, b, c, d, e, f, g, i, j] ∧ y = .returned (.agg #[.int .i64 a, .int .i64 b, .int .i64 c, .int .i64 d, .int .i64 e, .int .i64 f, .int .i64 g, .int .i64 i, .int .i64 j])) ∨
      (setupL s.data.toList = none ∧ y = gives 15)) ∧ Sat B L w' := by
  obtain ⟨ws, hws⟩ : ∃ ws, splL 32 s.data.toList = ws := ⟨_, rfl⟩
  have hsp := fun (M : List HP) (h' : Sat B M (w.alloc (.cells #[.int .i64 0, .int .i64 0, .int .i64 0, .int .i64 0, .int .i64 0, .int .i64 0, .int .i64 0, .int .i64 0, .int .i64 0] 28))) => psplit hE h' s 32 (by omega)
  rw [hws] at hsp
  obtain ⟨N, hN⟩ : ∃ N, ws.length = N := ⟨_, rfl⟩
  rw [hN] at hsp
  have hset : setupL s.data.toList = setupW ws := by rw [setupL, hws]
  by_cases h10 : N = 10
  · obtain ⟨w0, r, rfl⟩ : ∃ w0 r, ws = w0 :: r := by
      cases ws with
      | nil => simp at hN; omega
      | cons a r => exact ⟨a, r, rfl⟩
    have hr9 : r.length = 9 := by simp at hN; omega
    subst h10
    simp only [setupW, hr9, and_true] at hset
    obtain ⟨s0, hs0⟩ : ∃ s0 : ByteArray, s0 = ⟨w0.toArray⟩ := ⟨_, rfl⟩
    by_cases hw0 : w0 = [115, 101, 116, 117, 112]
    · rw [if_pos hw0] at hset
      have hne : (!s0.toList == [115, 101, 116, 117, 112]) = false := by
        rw [ByteArray.toList_eq, hs0]; simpa using hw0
      have hlen : ∀ p ∈ r, p.length ≤ 65536 := fun p hp => by
        have := (splL_mem 32 s.data.toList p (by rw [hws]; simp [hp])).1
        have e : s.data.toList.length = s.size := by rw [Array.length_toList]; rfl
        omega
      have Hset := Lib.hid hset
      have Hw := Lib.hid hs0
      have Hr9 := Lib.hid (And.intro hr9 hlen)
      clear hset hws hN hr9 hs0 hlen
      go_enter Tryz.func29, Tryz.ntmps29
      go_wp2_with (first
        | (go_at_call 26; refine (hsp _ (h.alloc _)).mono ?_; rintro e w1 ⟨g0, rfl, hS1⟩; have c0 : w1.cell? ⟨g0, 0, none⟩ = some (.string s0) := by (rw [Hw.out]; exact row_cell_at hS1 0 _ rfl)))
      obtain ⟨b1, hb1⟩ : ∃ b1, w1.heap.size = b1 := ⟨_, rfl⟩
      have hS2 := hS1.alloc' (.cells #[.int .i64 0, .int .i64 0, .int .i64 0, .int .i64 0, .int .i64 0, .int .i64 0, .int .i64 0, .int .i64 0, .int .i64 0] 65) (n := b1) hb1.symm
      rw [hb1]
      clear h hsp c0 hne hS1 hb1
      go_loopg [25] 9 (fun gh v25 wr => ∃ (k : Nat) (vs : List Int), k + gh ≤ 9 ∧ 9 ≤ k + gh ∧ v25 = .int .i64 k ∧ Hid (vs.length = k ∧ numsL (r.take k) = some vs) ∧
        Sat B (pt b1 (.cells (ints64 (arrL vs)).toArray 65) :: row 9 1 (.slice (some ⟨g0, 0, none⟩) 10 10) 10 (strL (w0 :: r)) :: pt w.heap.size (.cells #[.int .i64 0, .int .i64 0, .int .i64 0, .int .i64 0, .int .i64 0, .int .i64 0, .int .i64 0, .int .i64 0, .int .i64 0] 28) :: L) wr)
      case atStart => exact ⟨0, [], by omega, by omega, rfl, Lib.hid ⟨rfl, rfl⟩, hS2⟩
      case round =>
        obtain ⟨k, vs, hg1, hg2, rfl, Hv, hs1⟩ := hrel
        clear hS2
        by_cases hk : k < 9
        · have hkr : k < r.length := by rw [Hr9.out.1]; exact hk
          obtain ⟨p, hp⟩ : ∃ p, r[k] = p := ⟨_, rfl⟩
          have hpk : r[k]? = some p := by rw [List.getElem?_eq_getElem hkr, hp]
          have hpl : p.length ≤ 65536 := Hr9.out.2 p (by rw [← hp]; exact List.getElem_mem hkr)
          obtain ⟨sp, hsp⟩ : ∃ sp : ByteArray, sp = ⟨p.toArray⟩ := ⟨_, rfl⟩
          have hspl : sp.data.toList = p := by rw [hsp]
          have c1 : wr.cell? ⟨g0, 1 + k, none⟩ = some (.string sp) := by
            have := row_cell_at hs1.swap (1 + k) (.string sp) (by rw [hsp, Nat.add_comm 1 k]; simp [strL, hpk])
            simpa using this
          have hpar := puint hE hs1 sp (by rw [hsp]; show p.length ≤ _; omega)
          have hk3 : (k : Int) < 9 := by omega
          have hs2 := fun z : Int => hs1.set (j := k) (.int .i64 z)
          have Hp := Lib.hid (And.intro hpk (And.intro hsp hspl))
          clear hp hpk hsp hspl hpl hkr
          go_wp2_with fail
          refine hpar.mono ?_
          rintro e w2 ⟨hres, hS3⟩
          rcases hres with ⟨u, hu, rfl⟩ | ⟨hnone, u, te, pp, rfl⟩
          · have hule := num31_le _ _ hu
            have hfmt := pfmt hE hS3 u (by omega)
            obtain ⟨su, hsu⟩ : ∃ su : ByteArray, (⟨(Lib.decDigits u).toArray⟩ : ByteArray) = su := ⟨_, rfl⟩
            rw [hsu] at hfmt
            by_cases heq : Lib.decDigits u = p
            · have hnum : numL p = some u := (num_iff p u).2 heq.symm
              have hteq : (!su.toList == sp.toList) = false := by
                rw [ByteArray.toList_eq, ByteArray.toList_eq, Hp.out.2.2, ← hsu, heq]; simp
              have hconv : IntKind.i64.wrap (u : Int) = u := IntWalk.i64_in _ (by omega)
              have hsnoc : numsL (r.take (k + 1)) = some (vs ++ [(u : Int)]) := by
                have e : r.take (k + 1) = r.take k ++ [p] := by rw [List.take_add_one, Hp.out.1]; rfl
                rw [e]; exact numsL_snoc _ _ _ _ Hv.out.2 hnum
              have Hsn := Lib.hid hsnoc
              clear hpar hs2 hu heq hnum hsu hsnoc
              go_wp2_with (go_at_call 45; refine hfmt.mono ?_; rintro e w4 ⟨rfl, hS4⟩; have f4 := hS4.pt_free k; have c4 : ∃ v, w4.cell? ⟨b1, k, none⟩ = some v := ⟨_, (hS4.pt_cell k).trans (by rw [arrL_at vs k (by omega)])⟩; obtain ⟨v4, c4⟩ := c4)
              go_roundg (gk - 1)
              case measure => omega
              case rel =>
                have hS5 := hS4.set (j := k) (.int .i64 (u : Int))
                have hk9 := Hv.out.1
                rw [← hk9, arrL_set vs u (by omega), hk9] at hS5
                exact ⟨k + 1, vs ++ [(u : Int)], by omega, by omega, by go_num, Lib.hid ⟨by simp [hk9], Hsn.out⟩, hS5⟩
            · have hbad := setup_bad r Hr9.out.1 k p Hp.out.1 (by rw [← num31_numL, ← Hp.out.2.2, hu]; simp [Hp.out.2.2, heq])
              have hteq : (!su.toList == sp.toList) = true := by
                rw [ByteArray.toList_eq, ByteArray.toList_eq, Hp.out.2.2, ← hsu]; simpa using heq
              have Hbad := Lib.hid hbad
              clear hbad hpar hs2 hu heq hsu
              go_wp2_with (first
                | (go_at_call 45; refine hfmt.mono ?_; rintro e w4 ⟨rfl, hS4⟩)
                | (go_at_call 31; refine (pgive _ _).mono ?_; rintro e w' ⟨rfl, rfl⟩))
              exact ⟨rfl, .inr ⟨by rw [Hset.out, Hbad.out], rfl⟩, hS4.drop.drop.drop⟩
          · have hbad := setup_bad r Hr9.out.1 k p Hp.out.1 (by rw [← num31_numL, ← Hp.out.2.2, hnone]; rfl)
            have Hbad := Lib.hid hbad
            clear hbad hpar hs2 hnone
            go_wp2_with (go_at_call 31; refine (pgive _ _).mono ?_; rintro e w' ⟨rfl, rfl⟩)
            exact ⟨rfl, .inr ⟨by rw [Hset.out, Hbad.out], rfl⟩, hS3.drop.drop.drop⟩
        · obtain rfl : k = 9 := by omega
          obtain ⟨a, b, c, d, e, f, g, i, j, rfl⟩ := list9 vs Hv.out.1
          have hnums : numsL r = some [a, b, c, d, e, f, g, i, j] := by
            have := Hv.out.2
            rw [List.take_of_length_le (by rw [Hr9.out.1]; exact Nat.le_refl _)] at this
            exact this
          have hs1 : Sat B (pt b1 (.cells #[.int .i64 a, .int .i64 b, .int .i64 c, .int .i64 d, .int .i64 e, .int .i64 f, .int .i64 g, .int .i64 i, .int .i64 j] 65) :: row 9 1 (.slice (some ⟨g0, 0, none⟩) 10 10) 10 (strL (w0 :: r)) :: pt w.heap.size (.cells #[.int .i64 0, .int .i64 0, .int .i64 0, .int .i64 0, .int .i64 0, .int .i64 0, .int .i64 0, .int .i64 0, .int .i64 0] 28) :: L) wr := hs1
          have p5 := hs1.pt_cell
          have q0 := p5 0; have q1 := p5 1; have q2 := p5 2; have q3 := p5 3; have q4 := p5 4; have q5 := p5 5; have q6 := p5 6; have q7 := p5 7; have q8 := p5 8
          simp only [List.getElem?_toArray, List.getElem?_cons_zero, List.getElem?_cons_succ] at q0 q1 q2 q3 q4 q5 q6 q7 q8
          rw [hnums, Option.bind_some] at Hset
          clear p5 hnums hk
          have hs2 := hs1.alloc' (.cells #[.int .i64 a, .int .i64 b, .int .i64 c, .int .i64 d, .int .i64 e, .int .i64 f, .int .i64 g, .int .i64 i, .int .i64 j] 28) (n := wr.heap.size) rfl
          have hmy := pmay a b c d e f g i j hs2
          by_cases hm : mayL [a, b, c, d, e, f, g, i, j] = true
          · rw [if_pos hm] at Hset
            rw [hm] at hmy
            go_wp2_with (go_at_call 20; refine hmy.mono ?_; rintro e5 w5 ⟨rfl, hS5⟩; have p6 := hS5.pt_cell; have r0 := p6 0; have r1 := p6 1; have r2 := p6 2; have r3 := p6 3; have r4 := p6 4; have r5 := p6 5; have r6 := p6 6; have r7 := p6 7; have r8 := p6 8; have p7 := hS5.p3.pt_cell; have z0 := p7 0; have z1 := p7 1; have z2 := p7 2; have z3 := p7 3; have z4 := p7 4; have z5 := p7 5; have z6 := p7 6; have z7 := p7 7; have z8 := p7 8; simp only [List.getElem?_toArray, List.getElem?_cons_zero, List.getElem?_cons_succ] at r0 r1 r2 r3 r4 r5 r6 r7 r8 z0 z1 z2 z3 z4 z5 z6 z7 z8; have f7 := hS5.p3.pt_free; clear p6 p7)
            refine bodyPost_ret (v := .agg #[.int .i64 a, .int .i64 b, .int .i64 c, .int .i64 d, .int .i64 e, .int .i64 f, .int .i64 g, .int .i64 i, .int .i64 j]) (by simp [results, Tryz.results29, go_sem, z0, z1, z2, z3, z4, z5, z6, z7, z8]) rfl ⟨.inl ⟨a, b, c, d, e, f, g, i, j, Hset.out, rfl⟩, ?_⟩
            exact ((((((((hS5.p3.set (j := 0) _).set (j := 1) _).set (j := 2) _).set (j := 3) _).set (j := 4) _).set (j := 5) _).set (j := 6) _).set (j := 7) _).set (j := 8) _ |>.drop.drop.drop.drop
          · have hm' : mayL [a, b, c, d, e, f, g, i, j] = false := by simpa using hm
            rw [if_neg hm] at Hset
            rw [hm'] at hmy
            go_wp2_with (first
              | (go_at_call 20; refine hmy.mono ?_; rintro e5 w5 ⟨rfl, hS5⟩)
              | (go_at_call 31; refine (pgive _ _).mono ?_; rintro e w' ⟨rfl, rfl⟩))
            exact ⟨rfl, .inr ⟨Hset.out, rfl⟩, hS5.drop.drop.drop.drop⟩
    · rw [if_neg hw0] at hset
      have hne : (!s0.toList == [115, 101, 116, 117, 112]) = true := by
        rw [ByteArray.toList_eq, hs0]; simpa using hw0
      have Hset := Lib.hid hset
      have Hw := Lib.hid hs0
      clear hset hws hN hr9 hs0
      go_enter Tryz.func29, Tryz.ntmps29
      go_wp2_with (first
        | (go_at_call 26; refine (hsp _ (h.alloc _)).mono ?_; rintro e w1 ⟨g0, rfl, hS1⟩; have c0 : w1.cell? ⟨g0, 0, none⟩ = some (.string s0) := by (rw [Hw.out]; exact row_cell_at hS1 0 _ rfl))
        | (go_at_call 31; refine (pgive _ _).mono ?_; rintro e w' ⟨rfl, rfl⟩))
      exact ⟨rfl, .inr ⟨Hset.out, rfl⟩, hS1.drop.drop⟩
  · have hset : setupL s.data.toList = none := by
      rw [hset]
      cases ws with
      | nil => rfl
      | cons a r => rw [setupW, if_neg (fun e => h10 (by rw [← hN]; simp [e.2]))]
    have Hset := Lib.hid hset
    clear hset hws hN
    have hN2 : ¬ (N : Int) = 10 := by omega
    go_enter Tryz.func29, Tryz.ntmps29
    go_wp2_with (first
      | (go_at_call 26; refine (hsp _ (h.alloc _)).mono ?_; rintro e w1 ⟨g0, rfl, hS1⟩)
      | (go_at_call 31; refine (pgive _ _).mono ?_; rintro e w' ⟨rfl, rfl⟩))
    exact ⟨rfl, .inr ⟨Hset.out, rfl⟩, hS1.drop.drop⟩
end
end Go.Proofs.YtcjindifdghpgaaGreatDoor
