/-
  An operation of a line as the document reads it (what its words may be, held against the line of that) is what the program reads: plain Lean.
-/
import Derived.Test.YtcjindifdghpgaaGreatDoorOps8
namespace Go.Proofs.YtcjindifdghpgaaGreatDoor
set_option linter.all false
theorem dg_half (c : UInt8) (h : halfN c ≤ 15) : dg16 (halfN c) = c := by
  have : ∀ k : Fin 256, halfN (UInt8.ofNat k.val) ≤ 15 → dg16 (halfN (UInt8.ofNat k.val)) = UInt8.ofNat k.val := by decide +kernel
  have hc := this ⟨c.toNat, c.toNat_lt⟩
  simp only [UInt8.ofNat_toNat] at hc
  exact hc h
theorem hex_unhex : ∀ (l b : Bs), unhexL l = some b → l = hexL b
  | [], b, h => by simp [unhexL] at h; subst h; rfl
  | [_], b, h => by simp [unhexL] at h
  | x :: y :: r, b, h => by
    rw [unhexL] at h
    split at h
    · rename_i hh
      cases hr : unhexL r with
      | none => rw [hr] at h; simp at h
      | some b' =>
        rw [hr] at h
        simp only [Option.map_some, Option.some.injEq] at h
        subst h
        have ih := hex_unhex r b' hr
        have e : (UInt8.ofNat (halfN x * 16 + halfN y)).toNat = halfN x * 16 + halfN y := by rw [UInt8.toNat_ofNat']; omega
        have e1 : (halfN x * 16 + halfN y) / 16 = halfN x := by omega
        have e2 : (halfN x * 16 + halfN y) % 16 = halfN y := by omega
        rw [show hexL (UInt8.ofNat (halfN x * 16 + halfN y) :: b') = dg16 ((UInt8.ofNat (halfN x * 16 + halfN y)).toNat / 16) :: dg16 ((UInt8.ofNat (halfN x * 16 + halfN y)).toNat % 16) :: hexL b' by simp [hexL],
          e, e1, e2, dg_half x hh.1, dg_half y hh.2, ← ih]
    · cases h
theorem word_unword {w b : Bs} (h : unwordL w = some b) : w = wordL b := by
  unfold unwordL at h
  split at h
  · rename_i hw; cases h; rw [hw]; rfl
  · split at h
    · cases h
    · rename_i b' hu
      split at h
      · cases h
      · cases h
        rename_i hb
        rw [wordL, if_neg hb]; exact hex_unhex _ _ hu
theorem kind_sound (p : Bs) (h : kindTo p 5 ≠ 0) : p = nameL (kindTo p 5) := by
  simp only [kindTo] at h ⊢
  (repeat' split) <;> first | assumption | (exfalso; simp_all)
theorem list_len {n : Nat} {ws : List Bs} {l : List Bs} (hl : l.length = n) (h : ws.length ≤ n) (hw : ∀ i, i < n → ws[i]? = l[i]?) : ws = l := by
  apply List.ext_getElem?
  intro i
  by_cases hi : i < n
  · exact hw i hi
  · rw [List.getElem?_eq_none (by omega), List.getElem?_eq_none (by omega)]
theorem readW_sound {ws : List Bs} {k : Int} {r c v : Bs} {has : Bool} {e : Bs} (h : readW ws = some (k, r, c, v, has, e)) : mayOp k r c v has e = true ∧ ws = opWords k r c v has e := by
  unfold readW at h
  obtain ⟨w0, h0, h⟩ := Option.bind_eq_some_iff.1 h
  obtain ⟨w1, h1, h⟩ := Option.bind_eq_some_iff.1 h
  obtain ⟨r', hr, h⟩ := Option.bind_eq_some_iff.1 h
  obtain ⟨w2, h2, h⟩ := Option.bind_eq_some_iff.1 h
  obtain ⟨c', hc, h⟩ := Option.bind_eq_some_iff.1 h
  have hw1 := word_unword hr
  have hw2 := word_unword hc
  have hks := kind_sound w0
  generalize kindTo w0 5 = K at h hks
  unfold restW at h
  split at h
  · obtain ⟨w3, h3, h⟩ := Option.bind_eq_some_iff.1 h
    obtain ⟨v', hv, h⟩ := Option.bind_eq_some_iff.1 h
    have hw3 := word_unword hv
    unfold valW at h
    split at h
    · rename_i hK
      obtain ⟨w4, h4, h⟩ := Option.bind_eq_some_iff.1 h
      unfold flagW at h
      split at h
      · rename_i hh
        obtain ⟨w5, h5, h⟩ := Option.bind_eq_some_iff.1 h
        obtain ⟨e', he, h⟩ := Option.bind_eq_some_iff.1 h
        have hw5 := word_unword he
        unfold finW at h
        split at h
        · rename_i hf
          cases h
          refine ⟨hf.2, ?_⟩
          have hn := hks (by omega)
          subst hK hw1 hw2 hw3 hw5 hn hh
          refine list_len (n := 6) rfl hf.1 fun i hi => ?_
          match i, hi with
          | 0, _ => rw [h0]; rfl
          | 1, _ => rw [h1]; rfl
          | 2, _ => rw [h2]; rfl
          | 3, _ => rw [h3]; rfl
          | 4, _ => rw [h4]; rfl
          | 5, _ => rw [h5]; rfl
        · cases h
      · split at h
        · rename_i hh
          unfold finW at h
          split at h
          · rename_i hf
            cases h
            refine ⟨hf.2, ?_⟩
            have hn := hks (by omega)
            subst hK hw1 hw2 hw3 hn hh
            refine list_len (n := 5) rfl hf.1 fun i hi => ?_
            match i, hi with
            | 0, _ => rw [h0]; rfl
            | 1, _ => rw [h1]; rfl
            | 2, _ => rw [h2]; rfl
            | 3, _ => rw [h3]; rfl
            | 4, _ => rw [h4]; rfl
          · cases h
        · cases h
    · rename_i hK1 hK
      unfold finW at h
      split at h
      · rename_i hf
        cases h
        refine ⟨hf.2, ?_⟩
        obtain rfl : k = 1 := by omega
        have hn := hks (by omega)
        subst hw1 hw2 hw3 hn
        refine list_len (n := 4) rfl hf.1 fun i hi => ?_
        match i, hi with
        | 0, _ => rw [h0]; rfl
        | 1, _ => rw [h1]; rfl
        | 2, _ => rw [h2]; rfl
        | 3, _ => rw [h3]; rfl
      · cases h
  · rename_i hK
    unfold finW at h
    split at h
    · rename_i hf
      cases h
      refine ⟨hf.2, ?_⟩
      obtain ⟨hk5, -, -, -⟩ := may_parts hf.2
      have hn := hks (by omega)
      have hws : opWords k r c [] false [] = [nameL k, wordL r, wordL c] := by
        unfold opWords
        rw [if_neg (by omega), if_neg (by omega)]; rfl
      rw [hws]
      subst hw1 hw2 hn
      refine list_len (n := 3) rfl hf.1 fun i hi => ?_
      match i, hi with
      | 0, _ => rw [h0]; simp
      | 1, _ => rw [h1]; rfl
      | 2, _ => rw [h2]; rfl
    · cases h
theorem spl_join (c : UInt8) : ∀ s : Bs, Lib.join (splL c s) [c] = s := by
  intro s
  induction s with
  | nil => simp [splL, Lib.join_one]
  | cons a s ih =>
    rw [splL]
    split
    · rename_i ha
      subst ha
      cases hs : splL a s with
      | nil => exact absurd hs (splL_ne a s)
      | cons y t => rw [hs] at ih; rw [← ih, Lib.join_cons, Lib.join_cons]; simp [Lib.joinTail]
    · cases hs : splL c s with
      | nil => exact absurd hs (splL_ne c s)
      | cons y t => rw [hs] at ih; dsimp only; rw [← ih, Lib.join_cons, Lib.join_cons]; rfl
/-- The bytes of a word, as the document takes them: none of what is no word's. -/
def unB (s : Bs) : Bs := (unhexL s).getD []
def atL (ws : List Bs) (n : Nat) : Bs := ws.getD n []
def candW (ws : List Bs) : Op6 :=
  if atL ws 0 = wPut then (1, unB (atL ws 1), unB (atL ws 2), unB (atL ws 3), false, [])
  else if atL ws 0 = wGet then (2, unB (atL ws 1), unB (atL ws 2), [], false, [])
  else if atL ws 0 = wDel then (3, unB (atL ws 1), unB (atL ws 2), [], false, [])
  else if atL ws 0 = wSeek then (5, unB (atL ws 1), unB (atL ws 2), [], false, [])
  else if atL ws 0 = wCheck then (4, unB (atL ws 1), unB (atL ws 2), unB (atL ws 3), decide (atL ws 4 = wHas), unB (atL ws 5))
  else (0, unB (atL ws 1), unB (atL ws 2), [], false, [])
theorem unB_word (b : Bs) : unB (wordL b) = b := by
  unfold unB wordL
  split
  · rename_i h; subst h; rfl
  · rw [unhex_hex]; rfl
theorem cand_words {k : Int} {r c v : Bs} {has : Bool} {e : Bs} (h : mayOp k r c v has e = true) : candW (opWords k r c v has e) = (k, r, c, v, has, e) := by
  obtain ⟨hk, hv, hh, he⟩ := may_parts h
  rcases hk with rfl | rfl | rfl | rfl | rfl
  · obtain rfl : has = false := by rcases hh with h | h; omega; exact h
    obtain rfl : e = [] := by rcases he with ⟨h, _⟩ | h; omega; exact h
    simp [candW, opWords, nameL, atL, unB_word]
  · obtain rfl : has = false := by rcases hh with h | h; omega; exact h
    obtain rfl : e = [] := by rcases he with ⟨h, _⟩ | h; omega; exact h
    obtain rfl : v = [] := by rcases hv with h | h | h; omega; omega; exact h
    simp [candW, opWords, nameL, atL, unB_word]
  · obtain rfl : has = false := by rcases hh with h | h; omega; exact h
    obtain rfl : e = [] := by rcases he with ⟨h, _⟩ | h; omega; exact h
    obtain rfl : v = [] := by rcases hv with h | h | h; omega; omega; exact h
    simp [candW, opWords, nameL, atL, unB_word]
  · cases has
    · obtain rfl : e = [] := by rcases he with ⟨_, h⟩ | h; cases h; exact h
      simp [candW, opWords, nameL, atL, unB_word]; rfl
    · simp [candW, opWords, nameL, atL, unB_word]
  · obtain rfl : has = false := by rcases hh with h | h; omega; exact h
    obtain rfl : e = [] := by rcases he with ⟨h, _⟩ | h; omega; exact h
    obtain rfl : v = [] := by rcases hv with h | h | h; omega; omega; exact h
    simp [candW, opWords, nameL, atL, unB_word]
/-- What the document reads. -/
def opR (s : Bs) : Option Op6 :=
  if 4000 < s.length then none else
    let x := candW (splL 32 s)
    if mayOp x.1 x.2.1 x.2.2.1 x.2.2.2.1 x.2.2.2.2.1 x.2.2.2.2.2 = true ∧ opLine x.1 x.2.1 x.2.2.1 x.2.2.2.1 x.2.2.2.2.1 x.2.2.2.2.2 = s then some x else none
theorem opR_read (s : Bs) : opR s = readW (splL 32 s) := by
  have hall : ∀ x, readW (splL 32 s) = some x → mayOp x.1 x.2.1 x.2.2.1 x.2.2.2.1 x.2.2.2.2.1 x.2.2.2.2.2 = true ∧ opLine x.1 x.2.1 x.2.2.1 x.2.2.2.1 x.2.2.2.2.1 x.2.2.2.2.2 = s ∧ candW (splL 32 s) = x := by
    rintro ⟨k, r, c, v, has, e⟩ h
    obtain ⟨hm, hw⟩ := readW_sound h
    refine ⟨hm, ?_, by rw [hw]; exact cand_words hm⟩
    show Lib.join (opWords k r c v has e) [32] = s
    rw [← hw, spl_join]
  unfold opR
  split
  · rename_i hbig
    cases hr : readW (splL 32 s) with
    | none => rfl
    | some x =>
      obtain ⟨h1, h2, _⟩ := hall x hr
      have := line_len h1
      rw [h2] at this
      omega
  · dsimp only
    split
    · rename_i hbig hx
      have h := read_line hx.1
      rw [hx.2] at h
      exact h.symm
    · rename_i hbig hx
      cases hr : readW (splL 32 s) with
      | none => rfl
      | some x =>
        obtain ⟨h1, h2, h3⟩ := hall x hr
        rw [h3] at hx
        exact absurd ⟨h1, h2⟩ hx
end Go.Proofs.YtcjindifdghpgaaGreatDoor
