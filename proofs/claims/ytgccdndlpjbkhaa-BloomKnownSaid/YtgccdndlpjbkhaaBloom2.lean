/-
  Bloom: the iterator over places.
-/
import Derived.Test.YtgccdndlpjbkhaaBloom
import Derived.RangeFuncBound
import Derived.RangeFuncCalls
import Derived.RangeFuncLeaves
import Derived.Shelf.Abstract
import Derived.Shelf.RegionOpen
import Derived.WalkKit
import Derived.OwnWalkIn
import Derived.TacticsInMore
import Derived.LoopNIn
import Derived.LoopIn
namespace Go.Proofs.Ytgccdndlpjbkhaa
open Go.RowKit Go.Shelf
attribute [local go_sem] Oper.semAt_some
section
variable {B w : World} {L : List HP}

def plc (x m : Int) : Int := x % m
def plcs (x b m : Int) : Nat → List Int
  | 0 => []
  | k + 1 => plc x m :: plcs (IntKind.u64.wrap (x + b)) b m k
theorem u64_wrap_pos (x : Int) : 0 ≤ IntKind.u64.wrap x := by
  have : IntKind.u64.wrap x = x % 18446744073709551616 := by unfold IntKind.wrap; simp [IntKind.signed, IntKind.bits]
  rw [this]; omega
theorem hsh_pos (s : ByteArray) (f : Int) (hf : 0 ≤ f) : ∀ k, 0 ≤ hsh s f k
  | 0 => hf
  | k + 1 => by
    unfold hsh
    split
    · exact u64_wrap_pos _
    · exact hsh_pos s f hf k
/-- What the iterator has captured. -/
def capt (b1 b2 b3 : Nat) (s : ByteArray) (k m : Int) : HP := stars [pt b1 (.cells #[.string s] 9), pt b2 (.cells #[.int .i64 k] 3), pt b3 (.cells #[.int .i64 m] 3)]

theorem places_any (s : ByteArray) (k m : Int) (h : Sat B L w) :
    Calls Try.prog 34 #[.string s, .int .i64 k, .int .i64 m] w fun e w' => ∃ b1 b2 b3, e = .returned (.func (.func 36) #[] #[.pointer (some ⟨b1, 0, none⟩), .pointer (some ⟨b2, 0, none⟩), .pointer (some ⟨b3, 0, none⟩)]) ∧
      Sat B (capt b1 b2 b3 s k m :: L) w' := by
  go_enter Try.func34, Try.ntmps34
  go_wp2
  go_ret
  refine ⟨_, _, _, rfl, ?_⟩
  have h1 := ((h.alloc (.cells #[.string s] 9)).alloc (.cells #[.int .i64 k] 3)).alloc (.cells #[.int .i64 m] 3)
  rw [World.size_alloc, World.size_alloc] at h1
  exact Sat.fold (L := [_, _, _]) (M := L) h1.p2.q2.swap.p2

set_option maxHeartbeats 1000000 in
theorem places_iter (s : ByteArray) (hs : s.size ≤ 9223372036854775807) (k m : Nat) (hm0 : 0 < m) (hm1 : m ≤ 4294967296) (hk8 : k ≤ 8) (b1 b2 b3 : Nat) :
    IterSat Try.prog 36 #[.pointer (some ⟨b1, 0, none⟩), .pointer (some ⟨b2, 0, none⟩), .pointer (some ⟨b3, 0, none⟩)] (fun x : Int => #[.int .i64 x]) (plcs (hA s) (hB s) m k) B (capt b1 b2 b3 s k m) := by
  intro l M Mx L W hY h
  have h1 := Sat.flat (L := [_, _, _]) (h.swap)
  have c1 : W.cell? ⟨b1, 0, none⟩ = some (.string s) := Sat.pt_cell h1 0
  have c2 : W.cell? ⟨b2, 0, none⟩ = some (.int .i64 k) := Sat.pt_cell (Sat.swap h1) 0
  have c3 : W.cell? ⟨b3, 0, none⟩ = some (.int .i64 m) := Sat.pt_cell (Sat.p2 h1) 0
  refine callsIn_wide.2 ?_
  go_enter Try.func36, Try.ntmps36
  go_wp2_with fail
  have h2 := h1.alloc (.cells #[.int .u64 14695981039346656037, .int .u64 9521554427338878180] 67)
  refine (hashes_two s hs _ _ _ h2).mono ?_
  rintro e w2 ⟨g, off, c, rfl, h3⟩
  have c2 : w2.cell? ⟨b2, 0, none⟩ = some (.int .i64 k) := Sat.pt_cell h3.p3 0
  go_wp2_with fail
  have hM : Sat B (M [] :: row 67 1 (.slice (some ⟨g, off, none⟩) 2 c) 2 (pair (hA s) (hB s)) :: pt b1 (.cells #[.string s] 9) :: pt b2 (.cells #[.int .i64 k] 3) :: pt b3 (.cells #[.int .i64 m] 3) :: L) w2 := (Sat.drop h3.swap).p4
  clear h h1 h2 h3
  go_loopg [10] k (fun gh i wr => ∃ (j : Nat) (x : Int) (pre : List Int), j + gh ≤ k ∧ k ≤ j + gh ∧ i = .int .i64 j ∧ 0 ≤ x ∧ plcs (hA s) (hB s) m k = pre ++ plcs x (hB s) m gh ∧
    Sat B (M pre :: row 67 1 (.slice (some ⟨g, off, none⟩) 2 c) 2 (pair x (hB s)) :: pt b1 (.cells #[.string s] 9) :: pt b2 (.cells #[.int .i64 k] 3) :: pt b3 (.cells #[.int .i64 m] 3) :: L) wr)
  case atStart => exact ⟨0, _, [], by omega, by omega, rfl, hsh_pos _ _ (by omega) _, rfl, hM⟩
  case round =>
    obtain ⟨j, x, pre, hg1, hg2, rfl, hx0, hx, hs1⟩ := hrel
    clear hM c1 c2 c3
    have c3 : wr.cell? ⟨b3, 0, none⟩ = some (.int .i64 m) := Sat.pt_cell hs1.p4 0
    obtain ⟨_, _, hgo, q0, q0f, q0l, -⟩ := hs1.swap.row_cell 0 (by omega)
    cases hgo
    obtain ⟨_, _, hgo, q1, q1f, q1l, -⟩ := hs1.swap.row_cell 1 (by omega)
    cases hgo
    by_cases hj : j < k
    · go_wp2_with fail
      refine (wpIn_wide (n := 2)).1 ?_
      have m1 : (m : Int) ≤ 4294967296 := by omega
      have m2 : 0 < (m : Int) := by omega
      have m3 : IntKind.u64.wrap (m : Int) = m := by unfold IntKind.wrap; simp [IntKind.signed, IntKind.bits]; omega
      have m4 : ¬ (m : Int) = 0 := by omega
      replace q0 : wr.cell? ⟨g, off, none⟩ = some (.int .u64 x) := q0
      replace q0f : wr.frozen? ⟨g, off, none⟩ = false := q0f
      replace q1 : wr.cell? ⟨g, off + 1, none⟩ = some (.int .u64 (hB s)) := q1
      have m6 : 0 ≤ x % (m : Int) := Int.emod_nonneg _ m4
      have m7 : x % (m : Int) < m := Int.emod_lt_of_pos _ m2
      have m8 : IntKind.i64.wrap (x % m) = x % m := IntWalk.i64_in _ (by omega)
      clear m6 m7
      obtain ⟨gp, rfl⟩ : ∃ gp, gk = gp + 1 := ⟨gk - 1, by omega⟩
      obtain ⟨fn, tmps, assign, body, hy, hR⟩ := hY pre (x % m) _ wr.drew _ hx hs1.drew
      have hR2 : RoundIn Fence.wide 1 Try.prog l fn tmps assign body wr.drew (fun e W' => ∃ d : Bool, e = .returned (.bool d) ∧ Sat B ((if d then M (pre ++ [x % m]) else Mx (pre ++ [x % m])) :: row 67 1 (.slice (some ⟨g, off, none⟩) 2 c) 2 (pair x (hB s)) :: pt b1 (.cells #[.string s] 9) :: pt b2 (.cells #[.int .i64 k] 3) :: pt b3 (.cells #[.int .i64 m] 3) :: L) W') := by
        refine hR.mono ?_
        rintro e W' (⟨rfl, h⟩ | ⟨rfl, h⟩)
        · exact ⟨true, rfl, h⟩
        · exact ⟨false, rfl, h⟩
      clear hR
      gi_region_with (refine hR2.mono ?_; rintro e W3 ⟨d, rfl, hs3⟩)
      all_goals
        have hq := Sat.swap hs3
        clear hy hR2 c3 q0 q0f q0l q1 q1f q1l hs1
        obtain ⟨_, _, hgo, q0, q0f, q0l, -⟩ := hq.row_cell 0 (by omega)
        cases hgo
        obtain ⟨_, _, hgo, q1, q1f, q1l, -⟩ := hq.row_cell 1 (by omega)
        cases hgo
        replace q0 : W3.cell? ⟨g, off, none⟩ = some (.int .u64 x) := q0
        replace q0f : W3.frozen? ⟨g, off, none⟩ = false := q0f
        replace q1 : W3.cell? ⟨g, off + 1, none⟩ = some (.int .u64 (hB s)) := q1
        obtain ⟨y, hy⟩ : ∃ y, hB s = y := ⟨_, rfl⟩
        rw [hy] at q1
        cases d
        · rw [if_neg (by decide)] at hs3
          go_wp2_with fail
          refine bodyPost_ret (results_none rfl _ _ _) rfl ?_
          exact ⟨⟨_, rfl⟩, .inr ⟨pre ++ [x % m], plcs (IntKind.u64.wrap (x + hB s)) (hB s) m gp, by rw [hx]; simp [plcs, plc], Sat.swap (Sat.fold (L := [_, _, _]) (M := _ :: L) (Sat.q3 (Sat.drop (Sat.swap hs3))))⟩⟩
        · rw [if_pos rfl] at hs3
          go_wp2_with fail
          go_region
          all_goals
            go_wp2_with fail
            go_roundg gp
            case measure => omega
            case rel =>
              have h5 := Sat.swap ((Sat.row_set (Sat.swap hs3) 0 (by omega) (u := .int .u64 (IntKind.u64.wrap (x + y))) rfl).drew)
              refine ⟨j + 1, IntKind.u64.wrap (x + y), pre ++ [x % m], by omega, by omega, by go_num, u64_wrap_pos _, by rw [hx, ← hy]; simp [plcs, plc], ?_⟩
              simpa [pair] using h5
    · go_wp2_with fail
      obtain rfl : gk = 0 := by omega
      go_end0
      have e1 : plcs (hA s) (hB s) m k = pre := by rw [hx]; simp [plcs]
      rw [e1]
      exact ⟨⟨_, rfl⟩, .inl (Sat.swap (Sat.fold (L := [_, _, _]) (M := _ :: L) (Sat.q3 (Sat.drop (Sat.swap hs1)))))⟩
end
end Go.Proofs.Ytgccdndlpjbkhaa
