/-
  Script: setups and scripts, in plain Lean.
-/
import Derived.Test.YtcjindifdghpgaaGreatDoorScrP
namespace Go.Proofs.YtcjindifdghpgaaGreatDoor
/-- Nine numbers: a setup. -/
def mayL (l : List Int) : Bool := (List.zip l [((3 : Int), (5 : Int)), (1, 4), (4, 20), (1, 3), (2, 50), (1, 100), (4096, 1073741824), (1, 1024), (4, 1024)]).all fun x => decide (x.2.1 ≤ x.1 ∧ x.1 ≤ x.2.2)
theorem may_bounds {a b c d e f g i j : Int} (h : mayL [a, b, c, d, e, f, g, i, j] = true) : ∀ x ∈ [a, b, c, d, e, f, g, i, j], 0 ≤ x ∧ x ≤ 1073741824 := by
  simp [mayL] at h
  intro x hx
  simp only [List.mem_cons, List.not_mem_nil, or_false] at hx
  rcases hx with rfl | rfl | rfl | rfl | rfl | rfl | rfl | rfl | rfl <;> omega
/-- A setup's line. -/
def lineL (l : List Int) : Bs := [115, 101, 116, 117, 112] ++ l.flatMap fun x => 32 :: Lib.decDigits x.toNat
theorem lineL_snoc (l : List Int) (x : Int) : lineL (l ++ [x]) = lineL l ++ (32 :: Lib.decDigits x.toNat) := by simp [lineL]
theorem dec_len (u : Nat) (hu : u < 18446744073709551616) : (Lib.decDigits u).length ≤ 20 := by
  rw [Lib.decDigits_length]
  by_cases h : u = 0
  · subst h; rw [Lib.nDigits_small (by omega)]; omega
  · have := Lib.numDigits_eq u (by omega) hu; split at this <;> omega
theorem lineL_len (l : List Int) (h : ∀ x ∈ l, x ≤ 1073741824) : (lineL l).length ≤ 5 + 21 * l.length := by
  have : (l.flatMap fun x => (32 : UInt8) :: Lib.decDigits x.toNat).length ≤ 21 * l.length := by
    induction l with
    | nil => simp
    | cons y l ih =>
      have h1 := ih fun x hx => h x (by simp [hx])
      have h2 := dec_len y.toNat (by have := h y (by simp); omega)
      simp only [List.flatMap_cons, List.length_append, List.length_cons]
      omega
  simp only [lineL, List.length_append, List.length_cons, List.length_nil]
  omega
/-- The lines behind it. -/
def bodyL (l : Bs) : Bs := if l = [] then [] else hexL (l.take 32) ++ 10 :: bodyL (l.drop 32)
termination_by l.length
decreasing_by
  rename_i h
  have := List.length_pos_iff.2 h
  simp; omega
theorem bodyL_nil : bodyL [] = [] := by rw [bodyL, if_pos rfl]
theorem bodyL_cons {l : Bs} (h : l ≠ []) : bodyL l = hexL (l.take 32) ++ 10 :: bodyL (l.drop 32) := by rw [bodyL, if_neg h]
theorem bodyL_len (l : Bs) : (bodyL l).length ≤ 3 * l.length := by
  induction hn : l.length using Nat.strongRecOn generalizing l with
  | _ n ih =>
    by_cases h : l = []
    · subst h; rw [bodyL_nil]; simp
    · have hp := List.length_pos_iff.2 h
      rw [bodyL_cons h, List.length_append, List.length_cons, hex_length, List.length_take]
      have := ih (l.drop 32).length (by rw [List.length_drop]; omega) (l.drop 32) rfl
      rw [List.length_drop] at this
      omega
/-- A script's text. -/
def printL (l : List Int) (raw : Bs) : Bs := lineL l ++ 10 :: bodyL raw
end Go.Proofs.YtcjindifdghpgaaGreatDoor
