/-
  Script: the texts that Print makes, line by line, and how they are read, in plain Lean.
-/
import Derived.Test.YtcjindifdghpgaaGreatDoorScrR
namespace Go.Proofs.YtcjindifdghpgaaGreatDoor
/-- Bytes in pieces of 32. -/
def chunks (l : Bs) : List Bs := if l = [] then [] else l.take 32 :: chunks (l.drop 32)
termination_by l.length
decreasing_by
  rename_i h
  have := List.length_pos_iff.2 h
  simp; omega
theorem chunks_nil : chunks [] = [] := by rw [chunks, if_pos rfl]
theorem chunks_cons {l : Bs} (h : l ≠ []) : chunks l = l.take 32 :: chunks (l.drop 32) := by rw [chunks, if_neg h]
/-- Lines, each with its end. -/
def joinL (ls : List Bs) : Bs := ls.flatMap fun l => l ++ [10]
theorem joinL_cons (l : Bs) (ls : List Bs) : joinL (l :: ls) = l ++ 10 :: joinL ls := by simp [joinL]
/-- All but the last are full. -/
def Ck : List Bs → Prop
  | [] => True
  | [c] => 1 ≤ c.length ∧ c.length ≤ 32
  | c :: c' :: t => c.length = 32 ∧ Ck (c' :: t)
theorem chunks_all : ∀ (n : Nat) (l : Bs), l.length = n → bodyL l = joinL ((chunks l).map hexL) ∧ Ck (chunks l) ∧ (chunks l).flatten = l ∧ (chunks l).length = (n + 31) / 32 := by
  intro n
  induction n using Nat.strongRecOn with
  | _ n ih =>
    intro l hl
    by_cases h : l = []
    · subst h
      simp only [List.length_nil] at hl
      subst hl
      exact ⟨by rw [bodyL_nil, chunks_nil]; rfl, by rw [chunks_nil]; exact trivial, by rw [chunks_nil]; rfl, by rw [chunks_nil]; rfl⟩
    · have hp := List.length_pos_iff.2 h
      have hd : (l.drop 32).length = n - 32 := by rw [List.length_drop, hl]
      obtain ⟨h1, h2, h3, h4⟩ := ih (n - 32) (by omega) (l.drop 32) hd
      refine ⟨?_, ?_, ?_, ?_⟩
      · rw [bodyL_cons h, chunks_cons h, List.map_cons, joinL_cons, h1]
      · rw [chunks_cons h]
        cases hc : chunks (l.drop 32) with
        | nil => exact ⟨by simp; omega, by simp; omega⟩
        | cons c t =>
          rw [hc] at h2 h4
          refine ⟨?_, h2⟩
          have : 32 ≤ n := by
            rcases Nat.lt_or_ge 32 n with h5 | h5
            · omega
            · simp only [List.length_cons] at h4; omega
          simp; omega
      · rw [chunks_cons h, List.flatten_cons, h3, List.take_append_drop]
      · rw [chunks_cons h, List.length_cons, h4]; omega
theorem splL_join : ∀ (ls : List Bs), (∀ l ∈ ls, (10 : UInt8) ∉ l) → splL 10 (joinL ls) = ls ++ [[]]
  | [], _ => rfl
  | l :: ls, h => by
    rw [joinL_cons, splL_hit 10 l _ (h l (by simp)), splL_join ls (fun x hx => h x (by simp [hx]))]; rfl
theorem splL_join_cut : ∀ (ls : List Bs) (q : Bs), (∀ l ∈ ls, (10 : UInt8) ∉ l) → (10 : UInt8) ∉ q → splL 10 (joinL ls ++ q) = ls ++ [q]
  | [], q, _, hq => by simp only [joinL, List.flatMap_nil, List.nil_append]; exact splL_miss 10 q hq
  | l :: ls, q, h, hq => by
    rw [joinL_cons, List.append_assoc, List.cons_append, splL_hit 10 l _ (h l (by simp)), splL_join_cut ls q (fun x hx => h x (by simp [hx])) hq]; rfl
theorem hex_no10 (l : Bs) : (10 : UInt8) ∉ hexL l := fun h => by
  rcases hex_mem l 10 h with ⟨h1, _⟩ | ⟨h1, _⟩ <;> exact absurd h1 (by decide)
theorem step_hex (i : Nat) (prev raw c : Bs) (h1 : 1 ≤ c.length) (h2 : c.length ≤ 32) (h3 : 1 < i → prev.length = 64) (h4 : raw.length + c.length ≤ 16384) : stepL i prev (hexL c) raw = .ok (raw ++ c) := by
  rw [stepL, unhex_hex, stepB, if_neg (by
    rintro (h | h | ⟨h, h'⟩)
    · subst h; simp at h1
    · omega
    · exact h' (h3 h)), if_neg (by omega)]
/-- A whole body is read. -/
theorem run_ok : ∀ (cs : List Bs) (i : Nat) (prev raw : Bs), Ck cs → (cs ≠ [] → 1 < i → prev.length = 64) → raw.length + cs.flatten.length ≤ 16384 → runL (cs.map hexL ++ [[]]) i prev raw = .ok (raw ++ cs.flatten)
  | [], i, prev, raw, _, _, _ => by simp [runL]
  | [c], i, prev, raw, hk, hp, hb => by
    simp only [List.flatten_cons, List.flatten_nil, List.append_nil] at hb
    simp only [List.map_cons, List.map_nil, List.cons_append, List.nil_append]
    rw [runL, step_hex i prev raw c hk.1 hk.2 (hp (by simp)) hb]
    simp [runL]
  | c :: c' :: t, i, prev, raw, hk, hp, hb => by
    have hcl : c.length = 32 := hk.1
    rw [List.flatten_cons, List.length_append] at hb
    have ih := run_ok (c' :: t) (i + 1) (hexL c) (raw ++ c) hk.2 (fun _ _ => by rw [hex_length, hcl]) (by rw [List.length_append]; omega)
    simp only [List.map_cons, List.cons_append] at ih ⊢
    rw [runL, step_hex i prev raw c (by omega) (by omega) (hp (by simp)) (by omega)]
    simp only [ih, List.flatten_cons, List.append_assoc]
/-- A line that is none, behind full ones. -/
theorem run_bad (bad : Bs) (hbad : unhexL bad = none) (x : Bs) (rest : List Bs) : ∀ (cs : List Bs) (i : Nat) (prev raw : Bs), (∀ c ∈ cs, c.length = 32) → (1 < i → prev.length = 64) → raw.length + cs.flatten.length ≤ 16384 → runL (cs.map hexL ++ bad :: x :: rest) i prev raw = .error (15, i + cs.length)
  | [], i, prev, raw, _, _, _ => by
    simp only [List.map_nil, List.nil_append]
    rw [runL, stepL, hbad]; rfl
  | c :: t, i, prev, raw, hk, hp, hb => by
    have hcl : c.length = 32 := hk c (by simp)
    rw [List.flatten_cons, List.length_append] at hb
    have ih := run_bad bad hbad x rest t (i + 1) (hexL c) (raw ++ c) (fun y hy => hk y (by simp [hy])) (fun _ => by rw [hex_length, hcl]) (by rw [List.length_append]; omega)
    cases ht : t.map hexL ++ bad :: x :: rest with
    | nil => simp at ht
    | cons q r =>
      rw [ht] at ih
      simp only [List.map_cons, List.cons_append, ht]
      rw [runL, step_hex i prev raw c (by omega) (by omega) hp (by omega)]
      simp only [ih, List.length_cons]
      congr 2; omega
/-- A body without its last end of line. -/
theorem run_cut (q : Bs) (hq : q ≠ []) : ∀ (cs : List Bs) (i : Nat) (prev raw : Bs), (∀ c ∈ cs, c.length = 32) → (1 < i → prev.length = 64) → raw.length + cs.flatten.length ≤ 16384 → runL (cs.map hexL ++ [q]) i prev raw = .error (15, i + cs.length)
  | [], i, prev, raw, _, _, _ => by
    simp only [List.map_nil, List.nil_append]
    rw [runL, if_neg hq]; rfl
  | c :: t, i, prev, raw, hk, hp, hb => by
    have hcl : c.length = 32 := hk c (by simp)
    rw [List.flatten_cons, List.length_append] at hb
    have ih := run_cut q hq t (i + 1) (hexL c) (raw ++ c) (fun y hy => hk y (by simp [hy])) (fun _ => by rw [hex_length, hcl]) (by rw [List.length_append]; omega)
    cases ht : t.map hexL ++ [q] with
    | nil => simp at ht
    | cons z r =>
      rw [ht] at ih
      simp only [List.map_cons, List.cons_append, ht]
      rw [runL, step_hex i prev raw c (by omega) (by omega) hp (by omega)]
      simp only [ih, List.length_cons]
      congr 2; omega
theorem Ck_full : ∀ (cs : List Bs), Ck cs → ∀ (a : List Bs) (c : Bs) (b : List Bs), cs = a ++ c :: b → ∀ y ∈ a, y.length = 32
  | [], _, a, c, b, e => by simp at e
  | [x], _, a, c, b, e => by
    cases a with
    | nil => intro y hy; simp at hy
    | cons z a => simp at e
  | x :: x' :: t, hk, a, c, b, e => by
    cases a with
    | nil => intro y hy; simp at hy
    | cons z a =>
      simp only [List.cons_append, List.cons.injEq] at e
      obtain ⟨rfl, e⟩ := e
      intro y hy
      rcases List.mem_cons.1 hy with rfl | hy
      · exact hk.1
      · exact Ck_full (x' :: t) hk.2 a c b e y hy
theorem Ck_pos : ∀ (cs : List Bs), Ck cs → ∀ c ∈ cs, 1 ≤ c.length ∧ c.length ≤ 32
  | [], _, c, h => by simp at h
  | [x], hk, c, h => by simp at h; subst h; exact hk
  | x :: x' :: t, hk, c, h => by
    rcases List.mem_cons.1 h with rfl | h
    · have := hk.1; omega
    · exact Ck_pos (x' :: t) hk.2 c h
end Go.Proofs.YtcjindifdghpgaaGreatDoor
