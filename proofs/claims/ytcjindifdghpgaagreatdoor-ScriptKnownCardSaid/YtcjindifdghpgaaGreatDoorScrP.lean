/-
  Script: what its functions compute, in plain Lean: hexadecimal digits, decimal numerals, texts cut at a byte, setups, operations, scripts.
-/
import Derived.Lib.ItoaNum
import Derived.Lib.SplitLaws
import Derived.Lib.Join
namespace Go.Proofs.YtcjindifdghpgaaGreatDoor

abbrev Bs := List UInt8

/-! ### Hexadecimal digits -/
def dg16 (n : Nat) : UInt8 := if n < 10 then UInt8.ofNat (48 + n) else UInt8.ofNat (87 + n)
def halfN (c : UInt8) : Nat := if 48 ≤ c.toNat ∧ c.toNat ≤ 57 then c.toNat - 48 else if 97 ≤ c.toNat ∧ c.toNat ≤ 102 then c.toNat - 87 else 16
def hexL (l : Bs) : Bs := l.flatMap fun b => [dg16 (b.toNat / 16), dg16 (b.toNat % 16)]
def unhexL : Bs → Option Bs
  | [] => some []
  | [_] => none
  | a :: b :: r => if halfN a ≤ 15 ∧ halfN b ≤ 15 then (unhexL r).map (UInt8.ofNat (halfN a * 16 + halfN b) :: ·) else none
def wordL (b : Bs) : Bs := if b = [] then [45] else hexL b

theorem half_dg16 (n : Nat) (h : n < 16) : halfN (dg16 n) = n := by
  have : ∀ k : Fin 16, halfN (dg16 k.val) = k.val := by decide +kernel
  exact this ⟨n, h⟩
theorem hex_length (l : Bs) : (hexL l).length = 2 * l.length := by
  induction l with
  | nil => rfl
  | cons b l ih => simp only [hexL, List.flatMap_cons, List.length_append, List.length_cons] at *; rw [ih]; simp; omega
theorem unhex_hex (l : Bs) : unhexL (hexL l) = some l := by
  induction l with
  | nil => rfl
  | cons b l ih =>
    have hb := b.toNat_lt
    have h1 : halfN (dg16 (b.toNat / 16)) = b.toNat / 16 := half_dg16 _ (by omega)
    have h2 : halfN (dg16 (b.toNat % 16)) = b.toNat % 16 := half_dg16 _ (by omega)
    have e : hexL (b :: l) = dg16 (b.toNat / 16) :: dg16 (b.toNat % 16) :: hexL l := by simp [hexL]
    rw [e, unhexL, h1, h2, if_pos (by omega), ih, Option.map_some]
    congr 2
    have : b.toNat / 16 * 16 + b.toNat % 16 = b.toNat := by omega
    rw [this]; simp
theorem hex_append (a b : Bs) : hexL (a ++ b) = hexL a ++ hexL b := by simp [hexL]
theorem unhex_length : ∀ (l b : Bs), unhexL l = some b → l.length = 2 * b.length
  | [], b, h => by simp [unhexL] at h; subst h; rfl
  | [_], b, h => by simp [unhexL] at h
  | x :: y :: r, b, h => by
    rw [unhexL] at h
    split at h
    · cases hr : unhexL r with
      | none => rw [hr] at h; simp at h
      | some c => rw [hr] at h; simp at h; subst h; have := unhex_length r c hr; simp; omega
    · simp at h
theorem unhex_odd (l : Bs) (h : l.length % 2 = 1) : unhexL l = none := by
  cases hu : unhexL l with
  | none => rfl
  | some b => have := unhex_length l b hu; omega
theorem hex_mem (l : Bs) : ∀ c ∈ hexL l, (48 ≤ c.toNat ∧ c.toNat ≤ 57) ∨ (97 ≤ c.toNat ∧ c.toNat ≤ 102) := by
  intro c hc
  obtain ⟨b, _, hb⟩ := List.mem_flatMap.1 hc
  have h16 : ∀ k : Fin 16, (48 ≤ (dg16 k.val).toNat ∧ (dg16 k.val).toNat ≤ 57) ∨ (97 ≤ (dg16 k.val).toNat ∧ (dg16 k.val).toNat ≤ 102) := by decide +kernel
  have hlt := b.toNat_lt
  simp only [List.mem_cons, List.not_mem_nil, or_false] at hb
  rcases hb with rfl | rfl
  · exact h16 ⟨b.toNat / 16, by omega⟩
  · exact h16 ⟨b.toNat % 16, by omega⟩

/-! ### Texts cut at a byte -/
def splL (c : UInt8) : Bs → List Bs
  | [] => [[]]
  | x :: r => if x = c then [] :: splL c r else match splL c r with | [] => [[x]] | h :: t => (x :: h) :: t

theorem splL_ne (c : UInt8) (l : Bs) : splL c l ≠ [] := by
  cases l with
  | nil => simp [splL]
  | cons x r => rw [splL]; split; simp; split <;> simp
theorem splL_hit (c : UInt8) : ∀ (a b : Bs), c ∉ a → splL c (a ++ c :: b) = a :: splL c b
  | [], b, _ => by simp [splL]
  | x :: a, b, h => by
    have hx : ¬ x = c := fun e => h (by simp [e])
    rw [List.cons_append, splL, if_neg hx, splL_hit c a b (fun e => h (by simp [e]))]
theorem splL_miss (c : UInt8) : ∀ (a : Bs), c ∉ a → splL c a = [a]
  | [], _ => rfl
  | x :: a, h => by
    have hx : ¬ x = c := fun e => h (by simp [e])
    rw [splL, if_neg hx, splL_miss c a (fun e => h (by simp [e]))]
theorem splL_length (c : UInt8) (l : Bs) : (splL c l).length = l.count c + 1 := by
  induction l with
  | nil => rfl
  | cons x r ih =>
    rw [splL]
    split
    · rename_i h; subst h; simp [ih]
    · rename_i h
      rw [List.count_cons_of_ne (by simpa using h)]
      split
      · rename_i h2; exact absurd h2 (splL_ne c r)
      · rename_i h2; rw [h2] at ih; simpa using ih
theorem splL_mem (c : UInt8) : ∀ (l p : Bs), p ∈ splL c l → p.length ≤ l.length ∧ c ∉ p
  | [], p, h => by simp [splL] at h; subst h; simp
  | x :: r, p, h => by
    rw [splL] at h
    split at h
    · rcases List.mem_cons.1 h with rfl | h
      · simp
      · have := splL_mem c r p h; exact ⟨by simp; omega, this.2⟩
    · rename_i hx
      split at h
      · rename_i h2; exact absurd h2 (splL_ne c r)
      · rename_i q t h2
        have hq := splL_mem c r q (by rw [h2]; simp)
        rcases List.mem_cons.1 h with rfl | h
        · refine ⟨by simp; omega, fun e => ?_⟩
          rcases List.mem_cons.1 e with e | e
          · exact hx e.symm
          · exact hq.2 e
        · have := splL_mem c r p (by rw [h2]; simp [h]); exact ⟨by simp; omega, this.2⟩

open Go.Lib in
theorem index_one (c : UInt8) : ∀ (l : Bs), (index l [c] = -1 ∧ c ∉ l) ∨ ∃ a b : Bs, l = a ++ c :: b ∧ c ∉ a ∧ index l [c] = a.length
  | [] => .inl ⟨by simp [index], by simp⟩
  | x :: r => by
    by_cases hx : x = c
    · subst hx; exact .inr ⟨[], r, rfl, by simp, by simp [index, List.isPrefixOf]⟩
    · have hp : ([c] : List UInt8).isPrefixOf (x :: r) = false := by simp [List.isPrefixOf, Ne.symm hx]
      rcases index_one c r with ⟨h1, h2⟩ | ⟨a, b, h1, h2, h3⟩
      · refine .inl ⟨by rw [index, hp, h1]; simp, fun e => ?_⟩
        rcases List.mem_cons.1 e with e | e
        · exact hx e.symm
        · exact h2 e
      · refine .inr ⟨x :: a, b, by rw [h1]; rfl, fun e => ?_, ?_⟩
        · rcases List.mem_cons.1 e with e | e
          · exact hx e.symm
          · exact h2 e
        · have : ((a.length : Int) == -1) = false := by rw [beq_eq_false_iff_ne]; omega
          rw [index, hp, h3, this]; simp
open Go.Lib in
/-- strings.Split at one byte. -/
theorem splitK_one (c : UInt8) : ∀ (k : Nat) (l : Bs), l.count c ≤ k → splitK [c] 0 k l = splL c l
  | 0, l, h => by
    rw [splitK, splL_miss c l]
    intro e
    have := List.count_pos_iff.2 e
    omega
  | k + 1, l, h => by
    rcases index_one c l with ⟨h1, h2⟩ | ⟨a, b, h1, h2, h3⟩
    · rw [splitK, h1, splL_miss c l h2]; rfl
    · have hn : ((a.length : Int) == -1) = false := by rw [beq_eq_false_iff_ne]; omega
      have hc : b.count c ≤ k := by
        rw [h1, List.count_append, List.count_cons_self] at h
        omega
      have e1 : (a ++ c :: b).take a.length = a := List.take_left' rfl
      have e2 : (a ++ c :: b).drop (a.length + 1) = b := by
        rw [show a ++ c :: b = (a ++ [c]) ++ b by simp]; exact List.drop_left' (by simp)
      rw [splitK, h3, hn]
      simp only [Bool.false_eq_true, if_false, Int.toNat_natCast, Nat.add_zero, List.length_cons, List.length_nil, Nat.zero_add]
      rw [h1, splL_hit c a b h2, e1, e2, splitK_one c k b hc]

/-! ### Decimal numerals -/
def isDig (c : UInt8) : Prop := 48 ≤ c.toNat ∧ c.toNat ≤ 57
instance (c : UInt8) : Decidable (isDig c) := inferInstanceAs (Decidable (_ ∧ _))
def valL (l : Bs) : Nat := l.foldl (fun n c => 10 * n + (c.toNat - 48)) 0
/-- A numeral without a needless zero ahead. -/
def numL (w : Bs) : Option Nat := if w ≠ [] ∧ (∀ c ∈ w, isDig c) ∧ (w.length = 1 ∨ w.head? ≠ some 48) then some (valL w) else none
theorem valL_append (a : Bs) (c : UInt8) : valL (a ++ [c]) = 10 * valL a + (c.toNat - 48) := by simp [valL]
open Go.Lib in
theorem dec_facts (n : Nat) : decDigits n ≠ [] ∧ (∀ c ∈ decDigits n, isDig c) ∧ valL (decDigits n) = n ∧ (n = 0 → decDigits n = [48]) ∧ (1 ≤ n → ∃ c t, decDigits n = c :: t ∧ c ≠ 48) := by
  induction n using Nat.strongRecOn with
  | _ n ih =>
    have hd : ∀ k, k < 10 → (UInt8.ofNat (48 + k)).toNat = 48 + k := fun k hk => by rw [UInt8.toNat_ofNat']; omega
    by_cases h : n < 10
    · rw [decDigits_one h]
      refine ⟨by simp, ?_, ?_, ?_, ?_⟩
      · intro c hc
        obtain rfl := List.mem_singleton.1 hc
        unfold isDig; rw [hd n h]; omega
      · show 10 * 0 + ((UInt8.ofNat (48 + n)).toNat - 48) = n
        rw [hd n h]; omega
      · rintro rfl; rfl
      · intro h1
        refine ⟨_, _, rfl, fun e => ?_⟩
        have := congrArg UInt8.toNat e
        rw [hd n h] at this
        have e48 : (48 : UInt8).toNat = 48 := rfl
        omega
    · have e : decDigits n = decDigits (n / 10) ++ [UInt8.ofNat (48 + n % 10)] := by rw [decDigits, dif_neg h]
      obtain ⟨h1, h2, h3, h4, h5⟩ := ih (n / 10) (by omega)
      have hm := hd (n % 10) (by omega)
      rw [e]
      refine ⟨by simp, ?_, ?_, by omega, ?_⟩
      · intro c hc
        rcases List.mem_append.1 hc with hc | hc
        · exact h2 c hc
        · obtain rfl := List.mem_singleton.1 hc
          unfold isDig; rw [hm]; omega
      · rw [valL_append, h3, hm]; omega
      · intro _
        obtain ⟨c, t, h6, h7⟩ := h5 (by omega)
        exact ⟨c, _, by rw [h6]; rfl, h7⟩
open Go.Lib in
theorem num_dec (n : Nat) : numL (decDigits n) = some n := by
  obtain ⟨h1, h2, h3, h4, h5⟩ := dec_facts n
  have h8 : (decDigits n).length = 1 ∨ (decDigits n).head? ≠ some 48 := by
    by_cases h : n = 0
    · left; rw [h4 h]; rfl
    · obtain ⟨c, t, h6, h7⟩ := h5 (by omega)
      right; rw [h6]; simpa using h7
  rw [numL, if_pos ⟨h1, h2, h8⟩, h3]
open Go.Lib in
theorem dec_of_num : ∀ (k : Nat) (w : Bs), w.length = k → w ≠ [] → (∀ c ∈ w, isDig c) → (w.length = 1 ∨ w.head? ≠ some 48) → decDigits (valL w) = w := by
  intro k
  induction k using Nat.strongRecOn with
  | _ k ih =>
    intro w hk h1 h2 h3
    obtain ⟨a, c, rfl⟩ : ∃ a c, w = a ++ [c] := ⟨w.dropLast, w.getLast h1, (List.dropLast_concat_getLast h1).symm⟩
    have hc : isDig c := h2 c (by simp)
    have hd : UInt8.ofNat (48 + (c.toNat - 48)) = c := by
      have := hc.1
      rw [show 48 + (c.toNat - 48) = c.toNat by omega]; simp
    rw [valL_append]
    by_cases ha : a = []
    · subst ha
      have : 10 * valL [] + (c.toNat - 48) = c.toNat - 48 := by simp [valL]
      rw [this, decDigits_one (by have := hc.2; omega), hd]; rfl
    · have hh : a.head? ≠ some 48 := by
        rcases h3 with h3 | h3
        · simp at h3; exact absurd h3 ha
        · intro e
          apply h3
          cases a with
          | nil => simp at ha
          | cons x t => simpa using e
      have hlt : a.length < k := by rw [← hk]; simp
      have hda := ih a.length hlt a rfl ha (fun x hx => h2 x (by simp [hx])) (.inr hh)
      have hpos : 1 ≤ valL a := by
        by_cases h0 : valL a = 0
        · rw [h0] at hda
          rw [decDigits_one (by omega)] at hda
          rw [← hda] at hh
          simp at hh
        · omega
      have hcc := hc.2
      have hcd := hc.1
      rw [decDigits, dif_neg (by omega)]
      have e1 : (10 * valL a + (c.toNat - 48)) / 10 = valL a := by omega
      have e2 : (10 * valL a + (c.toNat - 48)) % 10 = c.toNat - 48 := by omega
      rw [e1, e2, hda, hd]
open Go.Lib in
theorem num_iff (w : Bs) (n : Nat) : numL w = some n ↔ w = decDigits n := by
  constructor
  · intro h
    rw [numL] at h
    split at h
    · rename_i hh
      cases h
      exact (dec_of_num _ w rfl hh.1 hh.2.1 hh.2.2).symm
    · cases h
  · rintro rfl; exact num_dec n
end Go.Proofs.YtcjindifdghpgaaGreatDoor
