/-
  disk: List: slices.IndexFunc and slices.DeleteFunc at names, by the predicate of a prefix.
-/
import Derived.Test.YtdngjkjoahgelaaGreatDoorDk4
import Derived.Test.YtdngjkjoahgelaaGreatDoorSlA
import Derived.Test.YtdngjkjoahgelaaGreatDoorShelf
import Derived.Deep.LoopGhost
namespace Go.Proofs.YtdngjkjoahgelaaGreatDoor
set_option linter.all false
set_option maxRecDepth 100000
set_option maxHeartbeats 1000000
open Go.RowKit
def strB (l : List Bt) : List Value := l.map fun b => .string (bA b)
theorem strB_get {l : List Bt} {j : Nat} {s : Bt} (h : l[j]? = some s) : (strB l)[j]? = some (.string (bA s)) := by rw [strB, List.getElem?_map, h]; rfl
theorem strB_set (l : List Bt) (i : Nat) (s : Bt) : (strB l).set i (.string (bA s)) = strB (l.set i s) := by rw [strB, strB, List.map_set]
theorem strB_len (l : List Bt) : (strB l).length = l.length := by simp [strB]
theorem hasPre_eq (s p : Bt) : Lib.hasPrefix s p = p.isPrefixOf s := rfl
section
variable {B w w' : World} {L M : List HP} {bp : Nat} {pre : Bt}
/-- 'List's function. -/
theorem pdDel (s : Bt) (hc : w.cell? ⟨bp, 0, none⟩ = some (.string (bA pre))) :
    Calls Tryz.prog 67 #[.string (bA s), .pointer (some ⟨bp, 0, none⟩)] w fun y w' => y = .returned (.bool (!pre.isPrefixOf s)) ∧ w' = w := by
  have hp := Tryz.strings_HasPrefix (bA s) (bA pre) w
  obtain ⟨q, hq⟩ : ∃ q, pre.isPrefixOf s = q := ⟨_, rfl⟩
  have e : Lib.hasPrefix (bA s).data.toList (bA pre).data.toList = q := by rw [← hq]; exact hasPre_eq s pre
  rw [e] at hp
  rw [hq]
  clear hq e
  go_enter Tryz.func67, Tryz.ntmps67
  go_wp2_with (go_at_call 68; refine hp.mono ?_; rintro y w1 ⟨rfl, rfl⟩)
  go_ret
  exact ⟨rfl, rfl⟩
/-- What is asked of a predicate's value. -/
def Dels (L : List HP) (B : World) (fv : Value) (q : Bt → Bool) : Prop := ∀ (s : Bt) (w : World), Sat B L w → Calls Tryz.prog 67 #[.string (bA s), fv] w fun y w' => y = .returned (.bool (!q s)) ∧ w' = w
def firstDel (q : Bt → Bool) (xs : List Bt) : Nat := xs.findIdx fun s => !q s
/-- 'IndexFunc'. -/
theorem pIndexFunc {g off n c : Nat} {xs : List Bt} {fv : Value} {q : Bt → Bool} (hf : Dels (row 9 1 (.slice (some ⟨g, off, none⟩) n c) n (strB xs) :: L) B fv q)
    (hS : Sat B (row 9 1 (.slice (some ⟨g, off, none⟩) n c) n (strB xs) :: L) w) :
    Calls Tryz.prog 89 #[.slice (some ⟨g, off, none⟩) n c, .func (.func 67) #[] #[fv]] w fun y w' => y = .returned (.int .i64 (if firstDel q xs < n then (firstDel q xs : Int) else -1)) ∧ w' = w := by
  have hl := hS.row_len
  rw [strB_len, Nat.mul_one] at hl
  obtain ⟨_, _, hb⟩ := reads_len hS.row_reads
  have hn : n ≤ 9223372036854775807 := by omega
  have b1 : (n : Int) ≤ 9223372036854775807 := by omega
  obtain ⟨m, hm⟩ : ∃ m, firstDel q xs = m := ⟨_, rfl⟩
  have hbef : ∀ j s, j < m → xs[j]? = some s → q s = true := fun j s hj hs => by
    have := List.not_of_lt_findIdx (p := fun s => !q s) (xs := xs) (i := j) (by unfold firstDel at hm; omega)
    rw [List.getElem?_eq_some_iff] at hs
    obtain ⟨h1, h2⟩ := hs
    rw [h2] at this
    simpa using this
  have hat : ∀ s, xs[m]? = some s → q s = false := fun s hs => by
    rw [List.getElem?_eq_some_iff] at hs
    obtain ⟨h1, h2⟩ := hs
    have h3 := List.findIdx_getElem (p := fun s => !q s) (xs := xs) (w := by unfold firstDel at hm; omega)
    have h4 : xs[xs.findIdx fun s => !q s]'(by unfold firstDel at hm; omega) = s := by rw [← h2]; congr 1
    rw [h4] at h3
    simpa using h3
  rw [hm]
  have Hb := Lib.hid hbef
  have Ha := Lib.hid hat
  have Hf := Lib.hid hf
  clear hbef hat hf hm hb
  go_enter Tryz.func89, Tryz.ntmps89
  go_wp2_with fail
  go_loopg [8] (n + 1) (fun gh v8 wr => ∃ k : Nat, k ≤ n ∧ k ≤ m ∧ n + 1 ≤ k + gh ∧ v8 = .int .i64 (k : Int) ∧ wr = w)
  case atStart => exact ⟨0, by omega, by omega, by omega, rfl, rfl⟩
  case round =>
    obtain ⟨k, hk1, hk2, hk3, rfl, rfl⟩ := hrel
    by_cases hlt : k < n
    · have b2 : (k : Int) < (n : Int) := by omega
      obtain ⟨s, hs⟩ : ∃ s, xs[k]? = some s := ⟨_, List.getElem?_eq_getElem (by omega)⟩
      obtain ⟨g', off', e0, c1, _⟩ := hS.row_cell k (by omega)
      cases e0
      rw [strB_get hs] at c1
      have hd := Hf.out s _ hS
      by_cases hkm : k = m
      · subst hkm
        rw [Ha.out s hs] at hd
        have H2 := Lib.hid (show (if k < n then (k : Int) else -1) = (k : Int) by rw [if_pos hlt])
        clear hs
        go_wp2_with (go_at_call 67; refine hd.mono ?_; rintro y w1 ⟨rfl, rfl⟩)
        go_ret
        first | exact ⟨rfl, rfl⟩ | exact ⟨by rw [H2.out], rfl⟩
      · rw [Hb.out k s (by omega) hs] at hd
        clear hs
        go_wp2_with (go_at_call 67; refine hd.mono ?_; rintro y w1 ⟨rfl, rfl⟩)
        go_roundg (gk - 1)
        case measure => omega
        case rel => exact ⟨k + 1, by omega, by omega, by omega, by go_num, rfl⟩
    · have b2 : ¬ (k : Int) < (n : Int) := by omega
      have H2 := Lib.hid (show (if m < n then (m : Int) else -1) = -1 by rw [if_neg (by omega)])
      go_wp2_with fail
      go_ret
      exact ⟨rfl, rfl⟩
theorem take_filter_snoc {q : Bt → Bool} {xs ys : List Bt} {i j : Nat} {s : Bt} (h1 : ys.take i = (xs.take j).filter q) (hs : xs[j]? = some s) (hi : i < ys.length) (hq : q s = true) : (ys.set i s).take (i + 1) = (xs.take (j + 1)).filter q := by
  have hj : j < xs.length := (List.getElem?_eq_some_iff.1 hs).1
  have e1 : xs.take (j + 1) = xs.take j ++ [s] := by rw [List.take_succ, hs]; rfl
  rw [e1, List.filter_append, ← h1]
  have e2 : (ys.set i s).take (i + 1) = ys.take i ++ [s] := by
    rw [List.take_succ, List.take_set_of_le (Nat.le_refl i), List.getElem?_set_self hi]; rfl
  rw [e2]; simp [hq]
theorem take_filter_skip {q : Bt → Bool} {xs ys : List Bt} {i j : Nat} {s : Bt} (h1 : ys.take i = (xs.take j).filter q) (hs : xs[j]? = some s) (hq : q s = false) : ys.take i = (xs.take (j + 1)).filter q := by
  have e1 : xs.take (j + 1) = xs.take j ++ [s] := by rw [List.take_succ, hs]; rfl
  rw [e1, List.filter_append, ← h1]; simp [hq]
theorem zeroStr (w : World) : (zeroValue 9).run Tryz.prog w = .ok (.string ⟨#[]⟩) w := by kernel_rfl
/-- 'DeleteFunc'. -/
theorem pDeleteFunc {g off n c : Nat} {xs : List Bt} {fv : Value} {q : Bt → Bool} (hf : ∀ ys, Dels (row 9 1 (.slice (some ⟨g, off, none⟩) n c) n (strB ys) :: L) B fv q)
    (hS : Sat B (row 9 1 (.slice (some ⟨g, off, none⟩) n c) n (strB xs) :: L) w) :
    Calls Tryz.prog 64 #[.slice (some ⟨g, off, none⟩) n c, .func (.func 67) #[] #[fv]] w fun y w' => ∃ v, y = .returned v ∧ Sat B (row 9 1 v (xs.filter q).length (strB (xs.filter q)) :: L) w' := by
  have hl := hS.row_len
  rw [strB_len, Nat.mul_one] at hl
  obtain ⟨_, hnc, hb⟩ := reads_len hS.row_reads
  have hn : n ≤ 9223372036854775807 := by omega
  have b1 : (n : Int) ≤ 9223372036854775807 := by omega
  have hI := pIndexFunc (hf xs) hS
  obtain ⟨m, hm⟩ : ∃ m, firstDel q xs = m := ⟨_, rfl⟩
  have hbef : ∀ s ∈ xs.take m, q s = true := fun s hs => by
    obtain ⟨j, hj⟩ := List.mem_iff_getElem?.1 hs
    rw [List.getElem?_take] at hj
    split at hj
    · rename_i hjm
      have := List.not_of_lt_findIdx (p := fun s => !q s) (xs := xs) (i := j) (by unfold firstDel at hm; omega)
      rw [List.getElem?_eq_some_iff] at hj
      obtain ⟨h1, h2⟩ := hj
      rw [h2] at this
      simpa using this
    · cases hj
  have hat : ∀ s, xs[m]? = some s → q s = false := fun s hs => by
    rw [List.getElem?_eq_some_iff] at hs
    obtain ⟨h1, h2⟩ := hs
    have h3 := List.findIdx_getElem (p := fun s => !q s) (xs := xs) (w := by unfold firstDel at hm; omega)
    have h4 : xs[xs.findIdx fun s => !q s]'(by unfold firstDel at hm; omega) = s := by rw [← h2]; congr 1
    rw [h4] at h3
    simpa using h3
  rw [hm] at hI
  clear hm
  by_cases hmn : m < n
  · rw [if_pos hmn] at hI
    have e0 : xs.take m = (xs.take (m + 1)).filter q := by
      obtain ⟨s, hs⟩ : ∃ s, xs[m]? = some s := ⟨_, List.getElem?_eq_getElem (by omega)⟩
      have e1 : xs.take (m + 1) = xs.take m ++ [s] := by rw [List.take_succ, hs]; rfl
      rw [e1, List.filter_append, List.filter_eq_self.2 hbef]
      simp [hat s hs]
    have He := Lib.hid e0
    have b2 : (m : Int) < (n : Int) := by omega
    have b3 : ((m : Int) == -1) = false := by simp
    have Hf := Lib.hid hf
    clear hbef hat hf e0
    go_enter Tryz.func64, Tryz.ntmps64
    go_wp2_with (go_at_call 89; refine hI.mono ?_; rintro y w1 ⟨rfl, rfl⟩)
    go_loopg [5, 6, 7] (n + 1) (fun gh v5 v6 v7 wr => ∃ (i j : Nat) (ys : List Bt), i < j ∧ j ≤ n ∧ n + 1 ≤ j + gh ∧ ys.length = n ∧ ys.take i = (xs.take j).filter q ∧ ys.drop j = xs.drop j ∧ v5 = .int .i64 (i : Int) ∧ v6 = .int .i64 (j : Int) ∧
      Sat B (row 9 1 (.slice (some ⟨g, off, none⟩) n c) n (strB ys) :: L) wr)
    case atStart => exact ⟨m, m + 1, xs, by omega, by omega, by omega, hl, He.out, rfl, rfl, by go_num, hS⟩
    case round =>
      obtain ⟨i, j, ys, hij, hj, hg, hyl, ht, hd, rfl, rfl, hS1⟩ := hrel
      have Ht := Lib.hid ht
      have Hd := Lib.hid hd
      have Hyl := Lib.hid hyl
      clear hI
      by_cases hlt : j < n
      · have b4 : (j : Int) < (n : Int) := by omega
        have b5 : (i : Int) < (n : Int) := by omega
        obtain ⟨s, hs⟩ : ∃ s, xs[j]? = some s := ⟨_, List.getElem?_eq_getElem (by omega)⟩
        have hys : ys[j]? = some s := by
          have h1 := congrArg (·[0]?) hd
          simpa [List.getElem?_drop, hs] using h1
        obtain ⟨g', off', e0, c1, _⟩ := hS1.row_cell j (by omega)
        cases e0
        rw [strB_get hys] at c1
        obtain ⟨g', off', e0, c2, f2, _⟩ := hS1.row_cell i (by omega)
        cases e0
        obtain ⟨t, hyt⟩ : ∃ t, ys[i]? = some t := ⟨_, List.getElem?_eq_getElem (by omega)⟩
        rw [strB_get hyt] at c2
        clear hyt
        have hde := Hf.out ys s _ hS1
        have Hs := Lib.hid hs
        cases hq : q s with
        | true =>
          rw [hq] at hde
          have hset := hS1.row_set i (by omega) (u := .string (bA s)) rfl
          rw [strB_set] at hset
          have e1 := Lib.hid (take_filter_snoc ht hs (by omega) hq)
          have e2 := Lib.hid (show (ys.set i s).drop (j + 1) = xs.drop (j + 1) by
            rw [List.drop_set_of_lt (by omega), ← List.drop_drop, hd, List.drop_drop])
          clear ht hd hyl hs hys hq
          go_wp2_with (go_at_call 67; refine hde.mono ?_; rintro y w2 ⟨rfl, rfl⟩)
          go_roundg (gk - 1)
          case measure => omega
          case rel => exact ⟨i + 1, j + 1, ys.set i s, by omega, by omega, by omega, by rw [List.length_set]; exact Hyl.out, e1.out, e2.out, by go_num, by go_num, hset⟩
        | false =>
          rw [hq] at hde
          have e1 := Lib.hid (take_filter_skip ht hs hq)
          have e2 := Lib.hid (show ys.drop (j + 1) = xs.drop (j + 1) by rw [← List.drop_drop, hd, List.drop_drop])
          clear ht hd hyl hs hys hq
          go_wp2_with (go_at_call 67; refine hde.mono ?_; rintro y w2 ⟨rfl, rfl⟩)
          go_roundg (gk - 1)
          case measure => omega
          case rel => exact ⟨i, j + 1, ys, by omega, by omega, by omega, Hyl.out, e1.out, e2.out, rfl, by go_num, hS1⟩
      · obtain rfl : j = n := by omega
        have hfil : ys.take i = xs.filter q := by rw [ht, List.take_of_length_le (by omega)]
        have hil : (xs.filter q).length = i := by rw [← hfil, List.length_take]; omega
        have b5 : (i : Int) ≤ (j : Int) := by omega
        have b6 : (i : Int) ≤ (c : Int) := by omega
        have b7 : ¬ (j : Int) < (j : Int) := by omega
        have b8 : i ≤ j := by omega
        have b9 : i ≤ c := by omega
        have Hfil := Lib.hid hfil
        have Hil := Lib.hid hil
        clear ht hd hyl hfil hil
        have b10 : i + (j - i) = j := by omega
        go_wp2_with (refine wpList_clear_row rfl Tryz.underlying22 zeroStr rfl rfl _ rfl i (j - i) (c - i) (some ⟨g, off + i, none⟩) rfl hS1 b10 (.inr rfl) ?_; intro w3 h3; go_frame)
        go_ret
        refine ⟨_, rfl, ?_⟩
        have h4 := h3.row_take i c b8 b9 (Nat.le_refl _)
        have e3 : (strB ys).take i = strB (xs.filter q) := by rw [← Hfil.out, strB, strB, List.map_take]
        have e4 : ((strB ys).take i ++ List.replicate (j - i) (Value.string ⟨#[]⟩)).take (i * 1) = strB (xs.filter q) := by
          rw [e3, Nat.mul_one, List.take_left' (by rw [strB_len]; exact Hil.out)]
        rw [e4] at h4
        rw [Hil.out]
        exact h4
  · have hall : xs.filter q = xs := List.filter_eq_self.2 fun s hs => hbef s (by rw [List.take_of_length_le (by omega)]; exact hs)
    rw [if_neg hmn] at hI
    have Hall := Lib.hid hall
    clear hall hbef hat hf
    go_enter Tryz.func64, Tryz.ntmps64
    go_wp2_with (go_at_call 89; refine hI.mono ?_; rintro y w1 ⟨rfl, rfl⟩)
    go_ret
    rw [Hall.out, hl]
    exact ⟨_, rfl, hS⟩
end
end Go.Proofs.YtdngjkjoahgelaaGreatDoor
