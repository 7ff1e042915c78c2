/-
  Script: the document's number; its setup line, in plain Lean.
-/
import Derived.Test.YtjfnkglppldfnaaGreatDoorScrN
import Derived.Test.YtjfnkglppldfnaaGreatDoorProg
import Derived.Deep.LoopGhost
import Derived.Lib.Hide
import Derived.WalkKit
namespace Go.Proofs.YtjfnkglppldfnaaGreatDoor
open Go.RowKit
def numberL (l : Bs) : Int := if l.length ≤ 10 then (match numL l with | some v => (v : Int) | none => -1) else -1
theorem dec_short : ∀ (k n : Nat), 1 ≤ k → n < 10 ^ k → (Lib.decDigits n).length ≤ k
  | 0, _, h, _ => by omega
  | k + 1, n, _, h => by
    by_cases hn : n < 10
    · rw [Lib.decDigits_one hn]; simp
    · have hk : 1 ≤ k := by
        rcases Nat.eq_zero_or_pos k with rfl | h'
        · simp at h; omega
        · exact h'
      have h2 : n / 10 < 10 ^ k := by rw [Nat.div_lt_iff_lt_mul (by omega)]; rw [Nat.pow_succ] at h; omega
      have := dec_short k (n / 10) hk h2
      rw [Lib.decDigits, dif_neg hn]
      simp; omega
theorem number_of_num {w : Bs} {v : Nat} (h : numL w = some v) (hv : v ≤ 1073741824) : numberL w = v := by
  have hw := (num_iff w v).1 h
  have hl := dec_short 10 v (by omega) (by omega)
  rw [numberL, if_pos (by rw [hw]; exact hl), h]
theorem num_of_number {w : Bs} (h : 0 ≤ numberL w) : ∃ v : Nat, numL w = some v ∧ numberL w = v := by
  unfold numberL at h ⊢
  split at h
  · rename_i h1
    rw [if_pos h1]
    cases hn : numL w with
    | none => rw [hn] at h; simp at h
    | some v => exact ⟨v, rfl, rfl⟩
  · omega
theorem nums_of_numbers : ∀ (r : List Bs), (∀ x ∈ r.map numberL, 0 ≤ x) → numsL r = some (r.map numberL)
  | [], _ => rfl
  | w :: r, h => by
    obtain ⟨v, h1, h2⟩ := num_of_number (h (numberL w) (by simp))
    rw [numsL, h1, nums_of_numbers r (fun x hx => h x (by simp at hx ⊢; exact .inr hx))]
    simp [h2]
theorem numbers_of_nums : ∀ (r : List Bs) (x : List Int), numsL r = some x → (∀ y ∈ x, y ≤ 1073741824) → r.map numberL = x
  | [], x, h, _ => by simp [numsL] at h; subst h; rfl
  | w :: r, x, h, hb => by
    simp only [numsL, Option.bind_eq_some_iff, Option.map_eq_some_iff] at h
    obtain ⟨v, hv, y, hy, rfl⟩ := h
    rw [List.map_cons, number_of_num hv (by have := hb (v : Int) (by simp); omega), numbers_of_nums r y hy (fun z hz => hb z (by simp [hz]))]
/-- A setup's line, as the document reads it. -/
theorem setup_doc (r : List Bs) (hr : r.length = 9) : ((numsL r).bind fun x => if mayL x = true then some x else none) = if mayL (r.map numberL) = true then some (r.map numberL) else none := by
  obtain ⟨a, b, c, d, e, f, g, i, j, h9⟩ := list9 (r.map numberL) (by rw [List.length_map, hr])
  by_cases hm : mayL (r.map numberL) = true
  · have h0 : ∀ x ∈ r.map numberL, 0 ≤ x := by
      rw [h9] at hm ⊢
      exact fun x hx => (may_bounds hm x hx).1
    rw [nums_of_numbers r h0, Option.bind_some]
  · rw [if_neg hm]
    cases hn : numsL r with
    | none => rfl
    | some x =>
      rw [Option.bind_some, if_neg]
      intro hx
      have hl := numsL_len r x hn
      obtain ⟨a', b', c', d', e', f', g', i', j', rfl⟩ := list9 x (by omega)
      rw [numbers_of_nums r _ hn (fun y hy => (may_bounds hx y hy).2)] at hm
      exact hm hx
theorem valL_lt : ∀ (k : Nat) (l : Bs), l.length = k → (∀ c ∈ l, isDig c) → valL l < 10 ^ k
  | 0, l, h, _ => by have := List.eq_nil_of_length_eq_zero h; subst this; simp [valL]
  | k + 1, l, h, hd => by
    have hne : l ≠ [] := fun e => by subst e; simp at h
    obtain ⟨a, c, rfl⟩ : ∃ a c, l = a ++ [c] := ⟨l.dropLast, l.getLast hne, (List.dropLast_concat_getLast hne).symm⟩
    have h1 := valL_lt k a (by simp at h; exact h) (fun x hx => hd x (by simp [hx]))
    have h2 : isDig c := hd c (by simp)
    have h3 := h2.2
    rw [valL_append, Nat.pow_succ]; omega
theorem val_small (l : Bs) (h : l.length ≤ 10) (hd : ∀ c ∈ l, isDig c) : valL l ≤ 9999999999 := by
  have h1 := valL_lt _ l rfl hd
  have h2 : 10 ^ l.length ≤ 10 ^ 10 := Nat.pow_le_pow_right (by omega) h
  omega
end Go.Proofs.YtjfnkglppldfnaaGreatDoor
