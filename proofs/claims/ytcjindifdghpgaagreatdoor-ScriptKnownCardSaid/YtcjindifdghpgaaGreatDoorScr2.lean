/-
  Script: setups: contracts.
-/
import Derived.Test.YtcjindifdghpgaaGreatDoorScr1
import Derived.Test.YtcjindifdghpgaaGreatDoorScrS
import Derived.Deep.QuietTactic
import Derived.BigQuiet
import Derived.Deep.RegionWith
namespace Go.Proofs.YtcjindifdghpgaaGreatDoor
open Go.RowKit
section
variable {B w : World} {L : List HP}
def lowL : List Int := [3, 1, 4, 1, 2, 1, 4096, 1, 4]
def highL : List Int := [5, 4, 20, 3, 50, 100, 1073741824, 1024, 1024]
def ints64 (l : List Int) : List Value := l.map (Value.int .i64)
def clampI (x lo hi : Int) : Int := if hi < (if x < lo then lo else x) then hi else (if x < lo then lo else x)
/-- The numbers, the first k of them within their bounds. -/
def mixL (l : List Int) (k : Nat) : List Int := (List.range 9).map fun t => if t < k then clampI (l.getD t 0) (lowL.getD t 0) (highL.getD t 0) else l.getD t 0
theorem mixL_at (l : List Int) (k t : Nat) (ht : t < 9) : (ints64 (mixL l k)).toArray[t]? = some (.int .i64 (if t < k then clampI (l.getD t 0) (lowL.getD t 0) (highL.getD t 0) else l.getD t 0)) := by
  simp [ints64, mixL, ht]
theorem mixL_succ (l : List Int) (k : Nat) (hk : k < 9) : (ints64 (mixL l k)).toArray.setIfInBounds k (.int .i64 (clampI (l.getD k 0) (lowL.getD k 0) (highL.getD k 0))) = (ints64 (mixL l (k + 1))).toArray := by
  apply Array.ext_getElem?
  intro t
  rw [Array.getElem?_setIfInBounds]
  by_cases ht : t < 9
  · rw [mixL_at l (k + 1) t ht]
    by_cases hkt : k = t
    · subst hkt
      simp [ints64, mixL, hk]
    · rw [if_neg hkt, mixL_at l k t ht]
      congr 2
      by_cases h1 : t < k
      · rw [if_pos h1, if_pos (by omega)]
      · rw [if_neg h1, if_neg (by omega)]
  · simp [ints64, mixL, ht]
    omega
set_option maxHeartbeats 1000000 in
set_option maxRecDepth 100000 in
theorem pnumbers (a b c d e f g i j : Int) (h : Sat B L w) :
    Calls Tryz.prog 22 #[.agg #[.int .i64 a, .int .i64 b, .int .i64 c, .int .i64 d, .int .i64 e, .int .i64 f, .int .i64 g, .int .i64 i, .int .i64 j]] w fun y w' =>
      y = .returned (.agg #[.int .i64 a, .int .i64 b, .int .i64 c, .int .i64 d, .int .i64 e, .int .i64 f, .int .i64 g, .int .i64 i, .int .i64 j]) ∧ Sat B L w' := by
  go_enter Tryz.func22, Tryz.ntmps22
  go_wp2_with fail
  refine bodyPost_ret (v := .agg #[.int .i64 a, .int .i64 b, .int .i64 c, .int .i64 d, .int .i64 e, .int .i64 f, .int .i64 g, .int .i64 i, .int .i64 j]) (by simp [results, Tryz.results22, go_sem]) rfl ⟨rfl, ?_⟩
  exact ((h.alloc _).alloc _).drop.drop

theorem run_eqItems_ints {P : Program} (w : World) (d : Nat) {e : TypeId} {k k' : IntKind} (he : P.underlying e = some (.int k')) (hc : P.cellsOf e = 1) (xs ys : List Int) (hxy : xs.length = ys.length) :
    ∀ is : List Nat, (∀ i ∈ is, i < xs.length) → (Op.eqItems (d + 1) e (P.cellsOf e) (ints k xs) (ints k ys) is).run P w = .ok (is.all fun i => decide (xs.getD i 0 = ys.getD i 0)) w := by
  intro is
  induction is with
  | nil => intro _; simp [Op.eqItems]
  | cons j is ih =>
    intro h
    have hj : j < xs.length := h j (by simp)
    have hj' : j < ys.length := by omega
    have ih' := ih fun i hi => h i (by simp [hi])
    have hag : (isAgg e).run P w = .ok false w := by simp [isAgg, run_underlying he]
    have hp : (part e (ints k xs) (j * P.cellsOf e)).run P w = .ok (.int k xs[j]) w := by
      have hcs : (ints k xs)[j * P.cellsOf e]? = some (.int k xs[j]) := by simp [ints, hc, hj]
      simp [part, hag, hcs]
    have hp' : (part e (ints k ys) (j * P.cellsOf e)).run P w = .ok (.int k ys[j]) w := by
      have hcs : (ints k ys)[j * P.cellsOf e]? = some (.int k ys[j]) := by simp [ints, hc, hj']
      simp [part, hag, hcs]
    by_cases hxy2 : xs[j] = ys[j]
    · simp [Op.eqItems, hp, hp', run_equalIn_int w d e k k' _ _ he, ih', hxy2, List.getElem?_eq_getElem hj, List.getElem?_eq_getElem hj']
    · simp [Op.eqItems, hp, hp', run_equalIn_int w d e k k' _ _ he, hxy2, List.getElem?_eq_getElem hj, List.getElem?_eq_getElem hj']
theorem all_range_eq (xs ys : List Int) (h : xs.length = ys.length) : ((List.range xs.length).all fun i => decide (xs.getD i 0 = ys.getD i 0)) = decide (xs = ys) := by
  rw [Bool.eq_iff_iff]
  simp only [List.all_eq_true, List.mem_range, decide_eq_true_eq]
  constructor
  · intro h1
    refine List.ext_getElem h fun i h2 h3 => ?_
    have := h1 i h2
    simpa [List.getD, h2, h3] using this
  · rintro rfl i _; rfl
theorem run_eql_ints {P : Program} (w : World) {T e : TypeId} {n : Nat} {k k' : IntKind} {i : TypeInfo} (hT : P.underlying T = some (.array n e)) (hi : P.info? e = some i) (he : P.underlying e = some (.int k')) (hc : P.cellsOf e = 1) (xs ys : List Int) (hx : xs.length = n) (hy : ys.length = n) :
    (binOp .eql T (.agg (ints k xs)) (.agg (ints k ys))).run P w = .ok (.bool (decide (xs = ys))) w := by
  rw [run_eql_struct, run_equalIn_array w 9999 _ _ hT hi, run_eqItems_ints w 9998 he hc xs ys (by rw [hx, hy]) _ (fun i hi => by rw [hx]; exact List.mem_range.1 hi), ← hx, all_range_eq xs ys (by rw [hx, hy])]
  rfl
theorem clamp_iff (x lo hi : Int) (h : lo ≤ hi) : clampI x lo hi = x ↔ lo ≤ x ∧ x ≤ hi := by
  unfold clampI
  constructor
  · intro e
    split at e <;> split at e <;> omega
  · rintro ⟨h1, h2⟩
    rw [if_neg (by split <;> omega), if_neg (by omega)]
theorem may_iff (a b c d e f g i j : Int) : decide (mixL [a, b, c, d, e, f, g, i, j] 9 = [a, b, c, d, e, f, g, i, j]) = mayL [a, b, c, d, e, f, g, i, j] := by
  have e1 : mixL [a, b, c, d, e, f, g, i, j] 9 = [clampI a 3 5, clampI b 1 4, clampI c 4 20, clampI d 1 3, clampI e 2 50, clampI f 1 100, clampI g 4096 1073741824, clampI i 1 1024, clampI j 4 1024] := rfl
  rw [e1]
  simp [mayL, clamp_iff]
theorem int_info : ∃ i, Tryz.prog.info? 3 = some i := Option.isSome_iff_exists.1 (by kernel_rfl)
theorem cells_int : Tryz.prog.cellsOf 3 = 1 := by kernel_rfl

set_option maxHeartbeats 4000000 in
set_option maxRecDepth 100000 in
theorem pmay (a b c d e f g i j : Int) (h : Sat B L w) :
    Calls Tryz.prog 20 #[.agg #[.int .i64 a, .int .i64 b, .int .i64 c, .int .i64 d, .int .i64 e, .int .i64 f, .int .i64 g, .int .i64 i, .int .i64 j]] w fun y w' =>
      y = .returned (.bool (mayL [a, b, c, d, e, f, g, i, j])) ∧ Sat B L w' := by
  go_enter Tryz.func20, Tryz.ntmps20
  go_wp2_with (go_at_call 22; refine (pnumbers _ _ _ _ _ _ _ _ _ (((h.alloc _).alloc _).alloc _)).mono ?_; rintro e w' ⟨rfl, hS⟩)
  obtain ⟨b5, hb5⟩ : ∃ b5, w'.heap.size = b5 := ⟨_, rfl⟩
  simp only [World.size_alloc] at hS
  rw [hb5]
  obtain ⟨xs, hxs⟩ : ∃ xs, [a, b, c, d, e, f, g, i, j] = xs := ⟨_, rfl⟩
  have hS1 : Sat B (pt b5 (.cells (ints64 (mixL [a, b, c, d, e, f, g, i, j] 0)).toArray 65) :: pt (w.heap.size + 1 + 1) (.cells (ints64 highL).toArray 65) :: pt (w.heap.size + 1) (.cells (ints64 lowL).toArray 65) :: pt w.heap.size (.cells #[.int .i64 a, .int .i64 b, .int .i64 c, .int .i64 d, .int .i64 e, .int .i64 f, .int .i64 g, .int .i64 i, .int .i64 j] 28) :: L)
      (w'.alloc (.cells #[.int .i64 a, .int .i64 b, .int .i64 c, .int .i64 d, .int .i64 e, .int .i64 f, .int .i64 g, .int .i64 i, .int .i64 j] 65)) := hS.alloc' _ hb5.symm
  rw [hxs] at hS1
  have Hx := Lib.hid hxs
  clear hS h hxs hb5
  go_loopg [6, 7, 13] 9 (fun gh v6 v7 v13 wr => ∃ (k : Nat), k + gh ≤ 9 ∧ 9 ≤ k + gh ∧ v13 = .int .i64 k ∧
    Sat B (pt b5 (.cells (ints64 (mixL xs k)).toArray 65) :: pt (w.heap.size + 1 + 1) (.cells (ints64 highL).toArray 65) :: pt (w.heap.size + 1) (.cells (ints64 lowL).toArray 65) :: pt w.heap.size (.cells #[.int .i64 a, .int .i64 b, .int .i64 c, .int .i64 d, .int .i64 e, .int .i64 f, .int .i64 g, .int .i64 i, .int .i64 j] 28) :: L) wr)
  case atStart => exact ⟨0, by omega, by omega, rfl, hS1⟩
  case round =>
    obtain ⟨k, hg1, hg2, rfl, hs1⟩ := hrel
    clear hS1
    by_cases hk : k < 9
    · obtain ⟨x, hx⟩ : ∃ x, xs.getD k 0 = x := ⟨_, rfl⟩
      obtain ⟨lo, hlo⟩ : ∃ x, lowL.getD k 0 = x := ⟨_, rfl⟩
      obtain ⟨hi, hhi⟩ : ∃ x, highL.getD k 0 = x := ⟨_, rfl⟩
      have hix : ∀ w, (Instr.index 65 (.agg #[.int .i64 a, .int .i64 b, .int .i64 c, .int .i64 d, .int .i64 e, .int .i64 f, .int .i64 g, .int .i64 i, .int .i64 j]) (.int .i64 (k : Int))).run Tryz.prog w = .ok (.int .i64 x) w := by
        intro w
        rw [← hx, ← Hx.out]
        rcases (show k = 0 ∨ k = 1 ∨ k = 2 ∨ k = 3 ∨ k = 4 ∨ k = 5 ∨ k = 6 ∨ k = 7 ∨ k = 8 by omega) with rfl | rfl | rfl | rfl | rfl | rfl | rfl | rfl | rfl <;> kernel_rfl
      have c5 := hs1.pt_cell k
      rw [mixL_at _ _ _ hk, if_neg (Nat.lt_irrefl k), hx] at c5
      have f5 := hs1.pt_free k
      have c4 := hs1.swap.pt_cell k
      have c3 := hs1.p2.pt_cell k
      have e4 : (ints64 highL).toArray[k]? = some (.int .i64 hi) := by
        rw [← hhi]
        rcases (show k = 0 ∨ k = 1 ∨ k = 2 ∨ k = 3 ∨ k = 4 ∨ k = 5 ∨ k = 6 ∨ k = 7 ∨ k = 8 by omega) with rfl | rfl | rfl | rfl | rfl | rfl | rfl | rfl | rfl <;> rfl
      have e3 : (ints64 lowL).toArray[k]? = some (.int .i64 lo) := by
        rw [← hlo]
        rcases (show k = 0 ∨ k = 1 ∨ k = 2 ∨ k = 3 ∨ k = 4 ∨ k = 5 ∨ k = 6 ∨ k = 7 ∨ k = 8 by omega) with rfl | rfl | rfl | rfl | rfl | rfl | rfl | rfl | rfl <;> rfl
      rw [e4] at c4
      rw [e3] at c3
      obtain ⟨v1, hv1⟩ : ∃ v1, (if x < lo then lo else x) = v1 := ⟨_, rfl⟩
      obtain ⟨v2, hv2⟩ : ∃ v2, (if hi < v1 then hi else v1) = v2 := ⟨_, rfl⟩
      have hs2 := (hs1.set (j := k) (.int .i64 v2)).drew
      have e2 : v2 = clampI (xs.getD k 0) (lowL.getD k 0) (highL.getD k 0) := by rw [hx, hlo, hhi, clampI, hv1, hv2]
      have hk' : (k : Int) < 9 := by omega
      have H5 := Lib.hid e2
      clear hx hlo hhi e4 e3 e2 hs1
      go_wp2_with fail
      go_region
      all_goals
        go_wp2_with fail
        go_roundg (gk - 1)
        case measure => omega
        case rel =>
          have e9 := mixL_succ xs k hk
          rw [← H5.out] at e9
          rw [e9] at hs2
          exact ⟨k + 1, by omega, by omega, by go_num, hs2⟩
    · obtain rfl : k = 9 := by omega
      obtain ⟨ii, hii⟩ := int_info
      have hM : ∃ m0 m1 m2 m3 m4 m5 m6 m7 m8 : Int, mixL xs 9 = [m0, m1, m2, m3, m4, m5, m6, m7, m8] := ⟨_, _, _, _, _, _, _, _, _, rfl⟩
      obtain ⟨m0, m1, m2, m3, m4, m5, m6, m7, m8, hM⟩ := hM
      have heq : ∀ w, (binOp .eql 65 (.agg #[.int .i64 m0, .int .i64 m1, .int .i64 m2, .int .i64 m3, .int .i64 m4, .int .i64 m5, .int .i64 m6, .int .i64 m7, .int .i64 m8]) (.agg #[.int .i64 a, .int .i64 b, .int .i64 c, .int .i64 d, .int .i64 e, .int .i64 f, .int .i64 g, .int .i64 i, .int .i64 j])).run Tryz.prog w = .ok (.bool (mayL xs)) w := by
        intro w
        have := run_eql_ints (P := Tryz.prog) w (k := .i64) Tryz.underlying65 hii Tryz.underlying3 cells_int [m0, m1, m2, m3, m4, m5, m6, m7, m8] [a, b, c, d, e, f, g, i, j] rfl rfl
        have h7 : decide ([m0, m1, m2, m3, m4, m5, m6, m7, m8] = [a, b, c, d, e, f, g, i, j]) = mayL xs := by
          rw [← hM, ← Hx.out]; exact may_iff ..
        rw [h7] at this
        exact this
      rw [hM] at hs1
      have hs1 : Sat B (pt b5 (.cells #[.int .i64 m0, .int .i64 m1, .int .i64 m2, .int .i64 m3, .int .i64 m4, .int .i64 m5, .int .i64 m6, .int .i64 m7, .int .i64 m8] 65) :: pt (w.heap.size + 1 + 1) (.cells (ints64 highL).toArray 65) :: pt (w.heap.size + 1) (.cells (ints64 lowL).toArray 65) :: pt w.heap.size (.cells #[.int .i64 a, .int .i64 b, .int .i64 c, .int .i64 d, .int .i64 e, .int .i64 f, .int .i64 g, .int .i64 i, .int .i64 j] 28) :: L) wr := hs1
      have p5 := hs1.pt_cell
      have p0 := hs1.p3.pt_cell
      have q0 := p5 0; have q1 := p5 1; have q2 := p5 2; have q3 := p5 3; have q4 := p5 4; have q5 := p5 5; have q6 := p5 6; have q7 := p5 7; have q8 := p5 8
      have r0 := p0 0; have r1 := p0 1; have r2 := p0 2; have r3 := p0 3; have r4 := p0 4; have r5 := p0 5; have r6 := p0 6; have r7 := p0 7; have r8 := p0 8
      simp only [List.getElem?_toArray, List.getElem?_cons_zero, List.getElem?_cons_succ] at q0 q1 q2 q3 q4 q5 q6 q7 q8 r0 r1 r2 r3 r4 r5 r6 r7 r8
      clear p5 p0 hM hii hk
      go_wp2_with fail
      go_region_with (go_at_call 22; refine (pnumbers _ _ _ _ _ _ _ _ _ hs1.drew).mono ?_; rintro e w2 ⟨rfl, hS2⟩; have p5 := hS2.pt_cell; have q0 := p5 0; have q1 := p5 1; have q2 := p5 2; have q3 := p5 3; have q4 := p5 4; have q5 := p5 5; have q6 := p5 6; have q7 := p5 7; have q8 := p5 8; simp only [List.getElem?_toArray, List.getElem?_cons_zero, List.getElem?_cons_succ] at q0 q1 q2 q3 q4 q5 q6 q7 q8)
      all_goals
        go_wp2_with fail
        go_ret
        exact ⟨by rw [← Hx.out]; rfl, hS2.drop.drop.drop.drop⟩
end
end Go.Proofs.YtcjindifdghpgaaGreatDoor
