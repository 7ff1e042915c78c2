/-
  slices.Sort at []uint64, of what is sorted already: nothing turns.
-/
import Derived.Test.YtdngjkjoahgelaaGreatDoorSlA
import Derived.Test.YtdngjkjoahgelaaGreatDoorProg
import Derived.Test.YtdngjkjoahgelaaGreatDoorShelf
import Derived.Lib.Hide
import Derived.Deep.QuietTactic
import Derived.BigQuiet
import Derived.Deep.LoopGhost
import Derived.IntWalk
import Derived.Lib.SliceRun
namespace Go.Proofs.YtdngjkjoahgelaaGreatDoor
set_option linter.all false
set_option maxRecDepth 100000
set_option maxHeartbeats 1000000
open Go.RowKit
section
variable {B w : World} {L : List HP} {g off n c : Nat} {X : Nat → Int}
/-- A row of numbers in order. -/
structure Asc (w : World) (g off n : Nat) (X : Nat → Int) : Prop where
  cell : ∀ j, j < n → w.cell? ⟨g, off + j, none⟩ = some (.int .u64 (X j))
  mono : ∀ i j, i ≤ j → j < n → X i ≤ X j
theorem Asc.drewN (h : Asc w g off n X) (k : Nat) : Asc (w.drewN k) g off n X := ⟨h.cell, h.mono⟩
theorem pLess (x y : Int) (h : y ≤ x) (w : World) : Calls Tryz.prog 109 #[.int .u64 x, .int .u64 y] w fun e w' => e = .returned (.bool false) ∧ w' = w := by
  have hn : ∀ (z : Int) (w : World), Calls Tryz.prog 138 #[.int .u64 z] w fun e w' => e = .returned (.bool false) ∧ w' = w := fun z w => by
    go_enter Tryz.func138, Tryz.ntmps138
    go_wp2
    go_ret
    exact ⟨by simp, rfl⟩
  have hxy : ¬ x < y := by omega
  clear h
  go_enter Tryz.func109, Tryz.ntmps109
  go_wp2_with (go_at_call 138; refine (hn _ _).mono ?_; rintro e w' ⟨rfl, rfl⟩)
  go_ret
  exact ⟨by simp; omega, rfl⟩
theorem pOrder2 (hA : Asc w g off n X) (i j : Nat) (hij : i ≤ j) (hj : j < n) (hn : n ≤ 9223372036854775807) (p : Value) :
    Calls Tryz.prog 161 #[.slice (some ⟨g, off, none⟩) n c, .int .i64 (i : Int), .int .i64 (j : Int), p] w fun e w' => e = .returned (.tuple #[.int .i64 (i : Int), .int .i64 (j : Int)]) ∧ ∃ k, w' = w.drewN k := by
  have c1 := hA.cell i (by omega)
  have c2 := hA.cell j hj
  have hm := hA.mono i j hij hj
  have b1 : (i : Int) < n := by omega
  have b2 : (j : Int) < n := by omega
  go_enter Tryz.func161, Tryz.ntmps161
  go_wp2
  go_quiet ((go_at_call 109; exact Calls.quiet_of_same (pLess _ _ hm _)))
  go_wp2
  go_ret2
  exact ⟨rfl, _, rfl⟩
def Dr (w w' : World) : Prop := ∃ q, w' = w.drewN q
theorem Dr.trans {w w1 w2 : World} (h : Dr w w1) (h' : Dr w1 w2) : Dr w w2 := by
  obtain ⟨q, rfl⟩ := h
  obtain ⟨r, rfl⟩ := h'
  exact ⟨q + r, by simp [World.drewN, Nat.add_assoc]⟩
theorem Asc.dr {w w' : World} (h : Asc w g off n X) (hd : Dr w w') : Asc w' g off n X := by obtain ⟨q, rfl⟩ := hd; exact h.drewN q
theorem pMedian (hA : Asc w g off n X) (i j k : Nat) (hij : i ≤ j) (hjk : j ≤ k) (hk : k < n) (hn : n ≤ 9223372036854775807) (p : Value) :
    Calls Tryz.prog 137 #[.slice (some ⟨g, off, none⟩) n c, .int .i64 (i : Int), .int .i64 (j : Int), .int .i64 (k : Int), p] w fun e w' => e = .returned (.int .i64 (j : Int)) ∧ Dr w w' := by
  have hj : j < n := by omega
  go_enter Tryz.func137, Tryz.ntmps137
  go_wp2_with fail
  refine (pOrder2 hA i j hij hj hn p).mono ?_
  rintro e w1 ⟨rfl, hw1⟩
  have hD := Lib.hid (show Dr w w1 from hw1)
  have hA1 := hA.dr hw1
  clear hw1 hA
  go_wp2_with fail
  refine (pOrder2 hA1 j k hjk hk hn p).mono ?_
  rintro e w2 ⟨rfl, hw2⟩
  have hD2 := Lib.hid (show Dr w1 w2 from hw2)
  have hA2 := hA1.dr hw2
  clear hw2 hA1
  go_wp2_with fail
  refine (pOrder2 hA2 i j hij hj hn p).mono ?_
  rintro e w3 ⟨rfl, hw3⟩
  have hD3 := Lib.hid (show Dr w2 w3 from hw3)
  clear hw3 hA2
  go_wp2_with fail
  go_ret
  exact ⟨rfl, hD.out.trans (hD2.out.trans hD3.out)⟩
theorem pAdj (hA : Asc w g off n X) (i : Nat) (hi : 1 ≤ i) (hin : i + 1 < n) (hn : n ≤ 9223372036854775807) (p : Value) :
    Calls Tryz.prog 136 #[.slice (some ⟨g, off, none⟩) n c, .int .i64 (i : Int), p] w fun e w' => e = .returned (.int .i64 (i : Int)) ∧ Dr w w' := by
  obtain ⟨k, rfl⟩ : ∃ k, i = k + 1 := ⟨i - 1, by omega⟩
  have hm := pMedian (c := c) hA k (k + 1) (k + 2) (by omega) (by omega) (by omega) hn p
  have b : (k : Int) + 2 ≤ 9223372036854775807 := by omega
  go_enter Tryz.func136, Tryz.ntmps136
  go_wp2_with fail
  refine hm.mono ?_
  rintro e w1 ⟨rfl, hw1⟩
  have hD := Lib.hid (show Dr w w1 from hw1)
  clear hw1
  go_wp2_with fail
  go_ret
  exact ⟨rfl, hD.out⟩
theorem pAdj' (hA : Asc w g off n X) (i : Int) (hi : 1 ≤ i) (hin : i + 1 < (n : Int)) (hn : n ≤ 9223372036854775807) (p : Value) :
    Calls Tryz.prog 136 #[.slice (some ⟨g, off, none⟩) n c, .int .i64 i, p] w fun e w' => e = .returned (.int .i64 i) ∧ Dr w w' := by
  obtain ⟨k, rfl⟩ : ∃ k : Nat, i = k := ⟨i.toNat, by omega⟩
  exact pAdj hA k (by omega) (by omega) hn p
theorem pMedian' (hA : Asc w g off n X) (i j k : Int) (h0 : 0 ≤ i) (hij : i ≤ j) (hjk : j ≤ k) (hk : k < (n : Int)) (hn : n ≤ 9223372036854775807) (p : Value) :
    Calls Tryz.prog 137 #[.slice (some ⟨g, off, none⟩) n c, .int .i64 i, .int .i64 j, .int .i64 k, p] w fun e w' => e = .returned (.int .i64 j) ∧ Dr w w' := by
  obtain ⟨a, rfl⟩ : ∃ a : Nat, i = a := ⟨i.toNat, by omega⟩
  obtain ⟨b, rfl⟩ : ∃ b : Nat, j = b := ⟨j.toNat, by omega⟩
  obtain ⟨d, rfl⟩ : ∃ d : Nat, k = d := ⟨k.toNat, by omega⟩
  exact pMedian hA a b d (by omega) (by omega) (by omega) hn p
theorem Asc.alloc (h : Asc w g off n X) (o : Obj) : Asc (w.alloc o) g off n X := ⟨fun j hj => Lib.cell?_alloc_some o (h.cell j hj), h.mono⟩
theorem Dr.cell {w w' : World} (h : Dr w w') (a : Addr) : w'.cell? a = w.cell? a := by obtain ⟨q, rfl⟩ := h; rfl
theorem pPivot (hA : Asc w g off n X) (h12 : 12 < n) (hn : n ≤ 9223372036854775807) :
    Calls Tryz.prog 106 #[.slice (some ⟨g, off, none⟩) n c, .int .i64 0, .int .i64 (n : Int)] w fun e w' => (e = .returned (.tuple #[.int .i64 ((n : Int) / 4 * 2), .int .i64 1])) ∧ Dr (w.alloc (.cells #[.int .i64 0] 3)) w' := by
  have b0 : (12 : Int) < (n : Int) := by omega
  have b1 : (n : Int) ≤ 9223372036854775807 := by omega
  have hA0 := hA.alloc (.cells #[.int .i64 0] 3)
  have hc0 : (w.alloc (.cells #[.int .i64 0] 3)).cell? ⟨w.heap.size, 0, none⟩ = some (.int .i64 0) := by rw [World.cell?_alloc_at _ _ _ _ rfl]; rfl
  have Hc := Lib.hid hc0
  clear hA hc0
  by_cases h50 : 50 ≤ n
  · have b2 : (50 : Int) ≤ (n : Int) := by omega
    go_enter Tryz.func106, Tryz.ntmps106
    go_wp2_with fail
    refine (pAdj' hA0 ((n : Int) / 4) (by omega) (by omega) hn _).mono ?_
    rintro e w1 ⟨rfl, hw1⟩
    have hA1 := hA0.dr hw1
    have hD1 := Lib.hid (show Dr _ w1 from hw1)
    clear hw1 hA0
    go_wp2_with fail
    refine (pAdj' hA1 ((n : Int) / 4 * 2) (by omega) (by omega) hn _).mono ?_
    rintro e w2 ⟨rfl, hw2⟩
    have hA2 := hA1.dr hw2
    have hD2 := Lib.hid (hD1.out.trans hw2)
    clear hw2 hA1 hD1
    go_wp2_with fail
    refine (pAdj' hA2 ((n : Int) / 4 * 3) (by omega) (by omega) hn _).mono ?_
    rintro e w3 ⟨rfl, hw3⟩
    have hA3 := hA2.dr hw3
    have hD3 := Lib.hid (hD2.out.trans hw3)
    clear hw3 hA2 hD2
    go_wp2_with fail
    refine (pMedian' hA3 ((n : Int) / 4) ((n : Int) / 4 * 2) ((n : Int) / 4 * 3) (by omega) (by omega) (by omega) (by omega) hn _).mono ?_
    rintro e w4 ⟨rfl, hw4⟩
    have hD4 := Lib.hid (hD3.out.trans hw4)
    have c4 : w4.cell? ⟨w.heap.size, 0, none⟩ = some (.int .i64 0) := (hD4.out.cell _).trans Hc.out
    clear hw4 hA3 hD3 Hc
    go_wp2_with fail
    go_ret2
    exact ⟨rfl, hD4.out⟩
  · have b2 : ¬ (50 : Int) ≤ (n : Int) := by omega
    go_enter Tryz.func106, Tryz.ntmps106
    go_wp2_with fail
    refine (pMedian' hA0 ((n : Int) / 4) ((n : Int) / 4 * 2) ((n : Int) / 4 * 3) (by omega) (by omega) (by omega) (by omega) hn _).mono ?_
    rintro e w4 ⟨rfl, hw4⟩
    have hD4 := Lib.hid (show Dr _ w4 from hw4)
    have c4 : w4.cell? ⟨w.heap.size, 0, none⟩ = some (.int .i64 0) := (hD4.out.cell _).trans Hc.out
    clear hw4 Hc
    go_wp2_with fail
    go_ret2
    exact ⟨rfl, hD4.out⟩
/-- The guard of a step: what stands behind is not less. -/
theorem pPartial (hA : Asc w g off n X) (h1 : 1 ≤ n) (hn : n ≤ 9223372036854775807) :
    Calls Tryz.prog 108 #[.slice (some ⟨g, off, none⟩) n c, .int .i64 0, .int .i64 (n : Int)] w fun e w' => e = .returned (.bool true) ∧ Dr w w' := by
  have b1 : (n : Int) ≤ 9223372036854775807 := by omega
  have hD0 := Lib.hid (show Dr w w from ⟨0, rfl⟩)
  go_enter Tryz.func108, Tryz.ntmps108
  go_wp2_with fail
  go_loopg [7, 8] 6 (fun gh v7 v8 wr => v7 = .int .i64 1 ∧ v8 = .int .i64 0 ∧ wr = w)
  case atStart => exact ⟨rfl, rfl, rfl⟩
  case round =>
    obtain ⟨rfl, rfl, rfl⟩ := hrel
    go_wp2_with fail
    obtain ⟨gO, rfl⟩ : ∃ gO, gO = gk := ⟨_, rfl⟩
    obtain ⟨w0, hw0⟩ : ∃ w0, w0 = wr := ⟨_, rfl⟩
    have hD0 := Lib.hid (show Dr w0 wr from hw0 ▸ ⟨0, rfl⟩)
    have HA := Lib.hid (show Asc w0 g off n X from hw0 ▸ hA)
    have HW := Lib.hid hw0
    clear hA hw0
    go_loopg [7] n (fun gh v7 wz => ∃ k : Nat, 1 ≤ k ∧ k ≤ n ∧ n ≤ k + gh ∧ v7 = .int .i64 (k : Int) ∧ Dr w0 wz)
    case atStart => exact ⟨1, by omega, h1, by omega, rfl, hD0.out⟩
    case round =>
      obtain ⟨k, hk1, hk2, hk3, rfl, hd⟩ := hrel
      obtain ⟨m, rfl⟩ : ∃ m, k = m + 1 := ⟨k - 1, by omega⟩
      have Hd := Lib.hid hd
      have hA1 := HA.out.dr hd
      clear hd
      by_cases hlt : m + 1 < n
      · have c1 := hA1.cell (m + 1) hlt
        have c2 := hA1.cell m (by omega)
        have hm := hA1.mono m (m + 1) (by omega) hlt
        have b2 : (m : Int) + 1 < (n : Int) := by omega
        have b3 : (m : Int) < (n : Int) := by omega
        have b4 : decide ((m : Int) + 1 < (n : Int)) = true := by simpa using b2
        clear hA1
        go_wp2_with fail
        go_quiet ((go_at_call 109; exact Calls.quiet_of_same (pLess _ _ hm _)))
        go_wp2_with fail
        go_roundg (gk - 1)
        case measure => omega
        case rel => exact ⟨m + 1 + 1, by omega, by omega, by omega, by go_num, Hd.out.trans ⟨_, rfl⟩⟩
      · obtain rfl : n = m + 1 := by omega
        have b4 : decide ((m : Int) + 1 < (m : Int) + 1) = false := by simp
        clear hA1
        go_wp2_with fail
        go_quiet (fail)
        go_wp2_with fail
        go_ret
        exact ⟨rfl, HW.out ▸ Hd.out.trans ⟨_, rfl⟩⟩
/-- 'insertionSort'. -/
theorem pInsert (hA : Asc w g off n X) (hn : n ≤ 9223372036854775807) :
    Calls Tryz.prog 103 #[.slice (some ⟨g, off, none⟩) n c, .int .i64 0, .int .i64 (n : Int)] w fun e w' => e = .returned (.tuple #[]) ∧ Dr w w' := by
  have b1 : (n : Int) ≤ 9223372036854775807 := by omega
  have HA := Lib.hid hA
  have hd0 : Dr w w := ⟨0, rfl⟩
  clear hA
  go_enter Tryz.func103, Tryz.ntmps103
  go_wp2_with fail
  go_loopg [6] (n + 1) (fun gh v6 wz => ∃ k : Nat, 1 ≤ k ∧ (k ≤ n ∨ k = 1) ∧ n + 1 ≤ k + gh ∧ v6 = .int .i64 (k : Int) ∧ Dr w wz)
  case atStart => exact ⟨1, by omega, by omega, by omega, rfl, hd0⟩
  case round =>
    obtain ⟨k, hk1, hk2, hk3, rfl, hd⟩ := hrel
    obtain ⟨m, rfl⟩ : ∃ m, k = m + 1 := ⟨k - 1, by omega⟩
    have Hd := Lib.hid hd
    have hA1 := HA.out.dr hd
    clear hd hd0
    by_cases hlt : m + 1 < n
    · have c1 := hA1.cell (m + 1) hlt
      have c2 := hA1.cell m (by omega)
      have hm := hA1.mono m (m + 1) (by omega) hlt
      have b2 : (m : Int) + 1 < (n : Int) := by omega
      have b3 : (m : Int) < (n : Int) := by omega
      have b4 : decide (0 < (m : Int) + 1) = true := decide_eq_true (by omega)
      clear hA1 hk2
      go_wp2_with fail
      obtain ⟨gO, rfl⟩ : ∃ gO, gO = gk := ⟨_, rfl⟩
      obtain ⟨w0, hw0⟩ : ∃ w0, w0 = wr := ⟨_, rfl⟩
      go_loopg [7] 1 (fun gh v7 wz => v7 = .int .i64 ((m + 1 : Nat) : Int) ∧ wz = w0)
      case atStart => exact ⟨rfl, hw0.symm⟩
      case round =>
        obtain ⟨rfl, rfl⟩ := hrel
        subst hw0
        go_wp2_with fail
        go_quiet ((go_at_call 109; exact Calls.quiet_of_same (pLess _ _ hm _)))
        go_wp2_with fail
        go_roundg (gO - 1)
        case measure => omega
        case rel => exact ⟨m + 1 + 1, by omega, by omega, by omega, by go_num, Hd.out.trans ⟨_, rfl⟩⟩
    · have b2 : ¬ (m : Int) + 1 < (n : Int) := by omega
      clear hA1
      go_wp2_with fail
      exact bodyPost_end (results_none rfl _ _ _) rfl ⟨rfl, Hd.out⟩
def Nw (w w' : World) : Prop := Dr w w' ∨ ∃ o : Obj, Dr (w.alloc o) w'
/-- 'pdqsort'. -/
theorem pPdq (hA : Asc w g off n X) (hn : n ≤ 9223372036854775807) (lim : Int) (hl : lim ≠ 0) :
    Calls Tryz.prog 71 #[.slice (some ⟨g, off, none⟩) n c, .int .i64 0, .int .i64 (n : Int), .int .i64 lim] w fun e w' => e = .returned (.tuple #[]) ∧ Nw w w' := by
  have b1 : (n : Int) ≤ 9223372036854775807 := by omega
  go_enter Tryz.func71, Tryz.ntmps71
  go_wp2_with fail
  go_loopg [1, 2, 3, 8, 9] 1 (fun gh v1 v2 v3 v8 v9 wr => v1 = .int .i64 0 ∧ v2 = .int .i64 (n : Int) ∧ v3 = .int .i64 lim ∧ v8 = .bool true ∧ v9 = .bool true ∧ wr = w)
  case atStart => exact ⟨rfl, rfl, rfl, rfl, rfl, rfl⟩
  case round =>
    obtain ⟨rfl, rfl, rfl, rfl, rfl, rfl⟩ := hrel
    by_cases h12 : n ≤ 12
    · have b2 : (n : Int) ≤ 12 := by omega
      have hI := pInsert (c := c) hA hn
      clear hA
      go_wp2_with fail
      refine hI.mono ?_
      rintro e w1 ⟨rfl, hw1⟩
      have HD := Lib.hid hw1
      clear hw1
      go_wp2_with fail
      exact bodyPost_ret (results_none rfl _ _ _) rfl ⟨rfl, .inl HD.out⟩
    · have b2 : ¬ (n : Int) ≤ 12 := by omega
      have b3 : (lim == 0) = false := by simpa using hl
      have hP := pPivot (c := c) hA (by omega) hn
      go_wp2_with fail
      refine hP.mono ?_
      rintro e w1 ⟨rfl, hw1⟩
      have hA1 := (hA.alloc (.cells #[.int .i64 0] 3)).dr hw1
      have HD := Lib.hid hw1
      clear hw1 hA hP
      go_wp2_with fail
      refine (pPartial hA1 (by omega) hn).mono ?_
      rintro e w2 ⟨rfl, hw2⟩
      have HD2 := Lib.hid (HD.out.trans hw2)
      clear hw2 hA1
      go_wp2_with fail
      exact bodyPost_ret (results_none rfl _ _ _) rfl ⟨rfl, .inr ⟨_, HD2.out⟩⟩
theorem bitLen_ne {n : Nat} (h : n ≠ 0) : (Lib.bitLen n : Int) ≠ 0 := by
  have : Lib.bitLen n ≠ 0 := fun e => by
    unfold Lib.bitLen at e
    rw [show (64 : Nat) = 63 + 1 from rfl, Lib.bitLenAux, if_neg h] at e
    omega
  omega
def u64s (xs : List Nat) : List Value := xs.map fun x : Nat => .int .u64 (x : Int)
theorem asc_get {xs : List Nat} (h : xs.Pairwise (· < ·)) : ∀ i j, i ≤ j → j < xs.length → ((xs[i]?).getD 0 : Int) ≤ ((xs[j]?).getD 0 : Int) := fun i j hij hj => by
  rw [List.getElem?_eq_getElem (by omega), List.getElem?_eq_getElem hj]
  rcases Nat.lt_or_eq_of_le hij with hlt | rfl
  · have := List.pairwise_iff_getElem.1 h i j (by omega) hj hlt
    simp; omega
  · exact Int.le_refl _
theorem pInsert0 (a : Option Addr) (c : Nat) (w : World) : Calls Tryz.prog 103 #[.slice a 0 c, .int .i64 0, .int .i64 0] w fun e w' => e = .returned (.tuple #[]) ∧ w' = w := by
  go_enter Tryz.func103, Tryz.ntmps103
  go_wp2_with fail
  go_loopg [6] 1 (fun gh v6 wz => v6 = .int .i64 1 ∧ wz = w)
  case atStart => exact ⟨rfl, rfl⟩
  case round =>
    obtain ⟨rfl, rfl⟩ := hrel
    go_wp2_with fail
    exact bodyPost_end (results_none rfl _ _ _) rfl ⟨rfl, rfl⟩
theorem pPdq0 (a : Option Addr) (c : Nat) (w : World) (lim : Int) : Calls Tryz.prog 71 #[.slice a 0 c, .int .i64 0, .int .i64 0, .int .i64 lim] w fun e w' => e = .returned (.tuple #[]) ∧ w' = w := by
  go_enter Tryz.func71, Tryz.ntmps71
  go_wp2_with fail
  go_loopg [1, 2, 3, 8, 9] 1 (fun gh v1 v2 v3 v8 v9 wr => v1 = .int .i64 0 ∧ v2 = .int .i64 0 ∧ v3 = .int .i64 lim ∧ v8 = .bool true ∧ v9 = .bool true ∧ wr = w)
  case atStart => exact ⟨rfl, rfl, rfl, rfl, rfl, rfl⟩
  case round =>
    obtain ⟨rfl, rfl, rfl, rfl, rfl, rfl⟩ := hrel
    go_wp2_with fail
    refine (pInsert0 a c _).mono ?_
    rintro e w1 ⟨rfl, rfl⟩
    go_wp2_with fail
    exact bodyPost_ret (results_none rfl _ _ _) rfl ⟨rfl, rfl⟩
/-- 'Sort'. -/
theorem pSort {v : Value} (xs : List Nat) (hS : Sat B (row 35 1 v xs.length (u64s xs) :: L) w) (hx : xs.Pairwise (· < ·)) :
    Calls Tryz.prog 36 #[v] w fun e w' => e = .returned (.tuple #[]) ∧ Sat B (row 35 1 v xs.length (u64s xs) :: L) w' := by
  have hr := hS.row_reads
  obtain ⟨a, c, rfl, ha, hnc, hcm, hcell⟩ := hr
  have hn : xs.length ≤ 9223372036854775807 := by unfold maxLen at hcm; omega
  have hkeep : ∀ w', Nw w w' → Sat B (row 35 1 (.slice a xs.length c) xs.length (u64s xs) :: L) w' := fun w' h => by
    rcases h with ⟨q, rfl⟩ | ⟨o, q, rfl⟩
    · exact hS.drewN q
    · exact ((hS.alloc o).drewN q).drop
  obtain ⟨n, hnx⟩ : ∃ n, xs.length = n := ⟨_, rfl⟩
  rw [hnx] at hkeep hn ha ⊢
  have b1 : (n : Int) ≤ 9223372036854775807 := by omega
  by_cases h0 : n = 0
  · subst h0
    have hb := Tryz.bits_Len 0 w (by omega) (by omega)
    have hw := hkeep w (.inl ⟨0, rfl⟩)
    clear hS hx hcell hkeep
    go_enter Tryz.func36, Tryz.ntmps36
    go_wp2_with fail
    refine hb.mono ?_
    rintro e w1 ⟨rfl, rfl⟩
    go_wp2_with fail
    refine (pPdq0 _ _ _ _).mono ?_
    rintro e w1 ⟨rfl, rfl⟩
    go_wp2_with fail
    exact bodyPost_end (results_none rfl _ _ _) rfl ⟨rfl, hw⟩
  · have hne := bitLen_ne h0
    obtain ⟨g, off, rfl⟩ : ∃ g off, a = some ⟨g, off, none⟩ := by
      obtain ⟨x, hx0⟩ : ∃ x, (u64s xs)[0]? = some x := ⟨_, List.getElem?_eq_getElem (by simp [u64s]; omega)⟩
      obtain ⟨b, o, h1, _⟩ := hcell 0 x hx0
      exact ⟨b, o, h1⟩
    have hA : Asc w g off n (fun j => ((xs[j]?).getD 0 : Int)) := ⟨fun j hj => by
      obtain ⟨b, o, h1, h2⟩ := hcell j (.int .u64 ((xs[j]?).getD 0 : Int)) (by rw [u64s, List.getElem?_map, List.getElem?_eq_getElem (by omega)]; rfl)
      cases h1; exact h2, fun i j hij hj => asc_get hx i j hij (by omega)⟩
    have hp := pPdq (c := c) hA hn (Lib.bitLen n) hne
    have hb := Tryz.bits_Len (n : Int) w (by omega) (by omega)
    clear hA hcell hS hx hne
    go_enter Tryz.func36, Tryz.ntmps36
    go_wp2_with fail
    refine hb.mono ?_
    rintro e w1 ⟨rfl, rfl⟩
    go_wp2_with fail
    refine hp.mono ?_
    rintro e w1 ⟨rfl, hw1⟩
    have HD := Lib.hid hw1
    clear hw1
    go_wp2_with fail
    exact bodyPost_end (results_none rfl _ _ _) rfl ⟨rfl, hkeep _ HD.out⟩
end
end Go.Proofs.YtdngjkjoahgelaaGreatDoor
