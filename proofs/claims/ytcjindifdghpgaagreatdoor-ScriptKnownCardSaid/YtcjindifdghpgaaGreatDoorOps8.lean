/-
  Operations come back from their lines, in plain Lean.
-/
import Derived.Test.YtcjindifdghpgaaGreatDoorOps6
namespace Go.Proofs.YtcjindifdghpgaaGreatDoor
set_option linter.all false
theorem splL_join32 : ∀ (ws : List Bs), ws ≠ [] → (∀ p ∈ ws, (32 : UInt8) ∉ p) → splL 32 (Lib.join ws [32]) = ws
  | [], h, _ => absurd rfl h
  | [x], _, h => by rw [Lib.join_one]; exact splL_miss 32 x (h x (by simp))
  | x :: y :: r, _, h => by
    have e : Lib.join (x :: y :: r) [32] = x ++ 32 :: Lib.join (y :: r) [32] := by
      rw [Lib.join_cons, Lib.join_cons]; simp [Lib.joinTail]
    rw [e, splL_hit 32 x _ (h x (by simp)), splL_join32 (y :: r) (by simp) (fun p hp => h p (by simp at hp ⊢; exact .inr hp))]
theorem word_no32 (b : Bs) : (32 : UInt8) ∉ wordL b := by
  unfold wordL
  split
  · decide
  · intro h
    rcases hex_mem b _ h with h | h
    · have : (32 : UInt8).toNat = 32 := rfl
      omega
    · have : (32 : UInt8).toNat = 32 := rfl
      omega
theorem name_no32 (k : Int) : (32 : UInt8) ∉ nameL k := by unfold nameL; (repeat' split) <;> decide
theorem unword_word (b : Bs) : unwordL (wordL b) = some b := by
  unfold wordL
  split
  · rename_i h; subst h; rfl
  · rename_i h
    have hl := hex_length b
    have h1 : hexL b ≠ [45] := fun e => by rw [e] at hl; simp at hl; omega
    rw [unwordL, if_neg h1, unhex_hex]
    exact if_neg h
theorem kind_name (k : Int) (hk : k = 1 ∨ k = 2 ∨ k = 3 ∨ k = 4 ∨ k = 5) : kindTo (nameL k) 5 = k := by
  rcases hk with rfl | rfl | rfl | rfl | rfl <;> decide
theorem may_parts {k : Int} {r c v : Bs} {has : Bool} {e : Bs} (h : mayOp k r c v has e = true) : (k = 1 ∨ k = 2 ∨ k = 3 ∨ k = 4 ∨ k = 5) ∧ (k = 1 ∨ k = 4 ∨ v = []) ∧ (k = 4 ∨ has = false) ∧ (k = 4 ∧ has = true ∨ e = []) := by
  simp only [mayOp, Bool.and_eq_true, decide_eq_true_eq] at h
  obtain ⟨⟨⟨⟨⟨⟨⟨h1, h2⟩, h3⟩, h4⟩, _⟩, _⟩, _⟩, _⟩ := h
  refine ⟨?_, h2, h3, h4⟩
  split at h1
  · omega
  · simp at h1; omega
/-- An operation comes back from its line. -/
theorem read_line {k : Int} {r c v : Bs} {has : Bool} {e : Bs} (h : mayOp k r c v has e = true) : readW (splL 32 (opLine k r c v has e)) = some (k, r, c, v, has, e) := by
  obtain ⟨hk, hv, hh, he⟩ := may_parts h
  have hs : splL 32 (opLine k r c v has e) = opWords k r c v has e := by
    refine splL_join32 _ (by simp [opWords]) fun p hp => ?_
    simp only [opWords, List.mem_append, List.mem_cons, List.not_mem_nil, or_false] at hp
    rcases hp with (rfl | rfl | rfl) | hp
    · exact name_no32 k
    · exact word_no32 r
    · exact word_no32 c
    · (repeat' split at hp) <;> simp only [List.mem_cons, List.not_mem_nil, or_false] at hp
      · subst hp; exact word_no32 v
      · rcases hp with rfl | rfl | rfl
        · exact word_no32 v
        · decide
        · exact word_no32 e
      · rcases hp with rfl | rfl
        · exact word_no32 v
        · decide
  rw [hs]
  have hkn := kind_name k hk
  have base : ∀ ws : List Bs, readW (nameL k :: wordL r :: wordL c :: ws) = restW (nameL k :: wordL r :: wordL c :: ws) k r c := by
    intro ws
    simp [readW, unword_word, hkn]
  rcases hk with rfl | rfl | rfl | rfl | rfl
  · obtain rfl : has = false := by rcases hh with h | h; omega; exact h
    obtain rfl : e = [] := by rcases he with ⟨h, _⟩ | h; omega; exact h
    show readW (nameL 1 :: wordL r :: wordL c :: [wordL v]) = _
    rw [base]
    simp [restW, valW, finW, unword_word, h]
  · obtain rfl : has = false := by rcases hh with h | h; omega; exact h
    obtain rfl : e = [] := by rcases he with ⟨h, _⟩ | h; omega; exact h
    obtain rfl : v = [] := by rcases hv with h | h | h; omega; omega; exact h
    show readW (nameL 2 :: wordL r :: wordL c :: []) = _
    rw [base]
    simp [restW, valW, finW, unword_word, h]
  · obtain rfl : has = false := by rcases hh with h | h; omega; exact h
    obtain rfl : e = [] := by rcases he with ⟨h, _⟩ | h; omega; exact h
    obtain rfl : v = [] := by rcases hv with h | h | h; omega; omega; exact h
    show readW (nameL 3 :: wordL r :: wordL c :: []) = _
    rw [base]
    simp [restW, valW, finW, unword_word, h]
  · cases has
    · obtain rfl : e = [] := by rcases he with ⟨_, h⟩ | h; cases h; exact h
      show readW (nameL 4 :: wordL r :: wordL c :: [wordL v, [110, 111, 110, 101]]) = _
      rw [base]
      simp [restW, valW, flagW, finW, unword_word, h]
    · show readW (nameL 4 :: wordL r :: wordL c :: [wordL v, [104, 97, 115], wordL e]) = _
      rw [base]
      simp [restW, valW, flagW, finW, unword_word, h]
  · obtain rfl : has = false := by rcases hh with h | h; omega; exact h
    obtain rfl : e = [] := by rcases he with ⟨h, _⟩ | h; omega; exact h
    obtain rfl : v = [] := by rcases hv with h | h | h; omega; omega; exact h
    show readW (nameL 5 :: wordL r :: wordL c :: []) = _
    rw [base]
    simp [restW, valW, finW, unword_word, h]
end Go.Proofs.YtcjindifdghpgaaGreatDoor
