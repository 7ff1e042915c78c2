/-
  Script: numerals as ParseUint reads them; a setup's line read, in plain Lean.
-/
import Derived.Test.YtcjindifdghpgaaGreatDoorScrS
import Derived.Lib.ParseIntB
namespace Go.Proofs.YtcjindifdghpgaaGreatDoor
def endV : Lib.NumEnd Nat → Option Nat
  | .ok u => some u
  | _ => none
/-- What ParseUint makes of a word, where it is content. -/
def num31 (l : Bs) : Option Nat := if l = [] then none else endV (Lib.parseUintM 2147483647 0 l)
theorem parse_digs : ∀ (l : Bs) (acc : Nat), (∀ c ∈ l, isDig c) → l.foldl (fun n c => 10 * n + (c.toNat - 48)) acc ≤ 2147483647 → Lib.parseUintM 2147483647 acc l = .ok (l.foldl (fun n c => 10 * n + (c.toNat - 48)) acc)
  | [], acc, _, _ => rfl
  | c :: r, acc, hd, hv => by
    have hc : 48 ≤ c.toNat ∧ c.toNat ≤ 57 := hd c (by simp)
    have hmono : ∀ (r : Bs) (a : Nat), a ≤ r.foldl (fun n c => 10 * n + (c.toNat - 48)) a := by
      intro r
      induction r with
      | nil => intro a; exact Nat.le_refl _
      | cons x r ih => intro a; exact Nat.le_trans (by omega) (ih (10 * a + (x.toNat - 48)))
    have h1 := hmono r (10 * acc + (c.toNat - 48))
    rw [List.foldl_cons] at hv ⊢
    have e : acc * 10 + (c.toNat - 48) = 10 * acc + (c.toNat - 48) := by omega
    rw [Lib.parseUintM, if_pos hc, if_neg (by omega), if_neg (by omega), e]
    exact parse_digs r _ (fun x hx => hd x (by simp [hx])) hv
theorem parse_le : ∀ (l : Bs) (acc u : Nat), acc ≤ 2147483647 → Lib.parseUintM 2147483647 acc l = .ok u → u ≤ 2147483647
  | [], acc, u, ha, h => by simp [Lib.parseUintM] at h; omega
  | c :: r, acc, u, ha, h => by
    rw [Lib.parseUintM] at h
    split at h
    · split at h
      · cases h
      · split at h
        · cases h
        · exact parse_le r _ u (by omega) h
    · cases h
/-- A numeral of at most 31 bits that is spelt as FormatUint spells it. -/
theorem num31_numL (w : Bs) : ((num31 w).bind fun v => if Lib.decDigits v = w then some v else none) = (numL w).bind fun v => if v ≤ 2147483647 then some v else none := by
  cases hn : numL w with
  | none =>
    cases h3 : num31 w with
    | none => rfl
    | some v =>
      have : ¬ Lib.decDigits v = w := fun e => by rw [← e, num_dec] at hn; cases hn
      simp [this]
  | some n =>
    have hw := (num_iff w n).1 hn
    obtain ⟨h1, h2, h3, _⟩ := dec_facts n
    by_cases hle : n ≤ 2147483647
    · have h4 : num31 w = some n := by
        rw [num31, hw, if_neg h1]
        have := parse_digs (Lib.decDigits n) 0 h2 (by rw [show (Lib.decDigits n).foldl (fun n c => 10 * n + (c.toNat - 48)) 0 = valL (Lib.decDigits n) from rfl, h3]; exact hle)
        rw [this, show (Lib.decDigits n).foldl (fun n c => 10 * n + (c.toNat - 48)) 0 = valL (Lib.decDigits n) from rfl, h3]
        rfl
      rw [h4]
      simp [hle, hw.symm]
    · cases h5 : num31 w with
      | none => simp [hle]
      | some v =>
        have hv : v ≤ 2147483647 := by
          rw [num31] at h5
          split at h5
          · cases h5
          · cases hp : Lib.parseUintM 2147483647 0 w with
            | ok u => rw [hp] at h5; cases h5; exact parse_le w 0 _ (by omega) hp
            | _ => rw [hp] at h5; cases h5
        have : ¬ Lib.decDigits v = w := fun e => by
          have : numL w = some v := (num_iff w v).2 e.symm
          rw [hn] at this; cases this; exact hle hv
        simp [this, hle]
/-- The words of a setup's line, as numbers. -/
def numsL : List Bs → Option (List Int)
  | [] => some []
  | w :: r => (numL w).bind fun v => (numsL r).map ((v : Int) :: ·)
theorem numsL_len : ∀ (l : List Bs) (x : List Int), numsL l = some x → x.length = l.length
  | [], x, h => by simp [numsL] at h; subst h; rfl
  | w :: r, x, h => by
    simp only [numsL, Option.bind_eq_some_iff, Option.map_eq_some_iff] at h
    obtain ⟨v, _, y, hy, rfl⟩ := h
    simp [numsL_len r y hy]
/-- A setup's line, read. -/
def setupW : List Bs → Option (List Int)
  | [] => none
  | a :: r => if a = [115, 101, 116, 117, 112] ∧ r.length = 9 then (numsL r).bind fun x => if mayL x = true then some x else none else none
def setupL (l : Bs) : Option (List Int) := setupW (splL 32 l)
theorem num31_le (w : Bs) (u : Nat) (h : num31 w = some u) : u ≤ 2147483647 := by
  rw [num31] at h
  split at h
  · cases h
  · cases hp : Lib.parseUintM 2147483647 0 w with
    | ok v => rw [hp] at h; cases h; exact parse_le w 0 _ (by omega) hp
    | _ => rw [hp] at h; cases h
theorem numsL_snoc : ∀ (l : List Bs) (p : Bs) (x : List Int) (v : Nat), numsL l = some x → numL p = some v → numsL (l ++ [p]) = some (x ++ [(v : Int)])
  | [], p, x, v, h, hp => by simp [numsL] at h; subst h; simp [numsL, hp]
  | w :: r, p, x, v, h, hp => by
    simp only [numsL, Option.bind_eq_some_iff, Option.map_eq_some_iff] at h
    obtain ⟨u, hu, y, hy, rfl⟩ := h
    simp [numsL, hu, numsL_snoc r p y v hy hp]
theorem numsL_at : ∀ (l : List Bs) (x : List Int) (k : Nat) (p : Bs), numsL l = some x → l[k]? = some p → ∃ n, numL p = some n ∧ x[k]? = some (n : Int)
  | [], x, k, p, h, hk => by simp at hk
  | w :: r, x, k, p, h, hk => by
    simp only [numsL, Option.bind_eq_some_iff, Option.map_eq_some_iff] at h
    obtain ⟨u, hu, y, hy, rfl⟩ := h
    cases k with
    | zero => simp at hk; subst hk; exact ⟨u, hu, by simp⟩
    | succ k => simpa using numsL_at r y k p hy (by simpa using hk)
theorem list9 {α : Type} (l : List α) (h : l.length = 9) : ∃ a b c d e f g i j, l = [a, b, c, d, e, f, g, i, j] := by
  match l, h with
  | [a, b, c, d, e, f, g, i, j], _ => exact ⟨a, b, c, d, e, f, g, i, j, rfl⟩
theorem setup_bad (r : List Bs) (hr : r.length = 9) (k : Nat) (p : Bs) (hk : r[k]? = some p) (hb : ((numL p).bind fun v => if v ≤ 2147483647 then some v else none) = none) : ((numsL r).bind fun x => if mayL x = true then some x else none) = none := by
  cases hn : numsL r with
  | none => rfl
  | some x =>
    obtain ⟨n, h1, h2⟩ := numsL_at r x k p hn hk
    have hx := numsL_len r x hn
    obtain ⟨a, b, c, d, e, f, g, i, j, rfl⟩ := list9 x (by omega)
    have h3 : ¬ n ≤ 2147483647 := fun h => by simp [h1, h] at hb
    have h4 : ¬ mayL [a, b, c, d, e, f, g, i, j] = true := fun h => by
      have := (may_bounds h (n : Int) (List.mem_of_getElem? h2)).2
      omega
    simp [h4]
end Go.Proofs.YtcjindifdghpgaaGreatDoor
