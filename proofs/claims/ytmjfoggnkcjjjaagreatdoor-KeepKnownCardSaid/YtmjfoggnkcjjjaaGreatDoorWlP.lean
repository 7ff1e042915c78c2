/-
  Logs, in plain Lean: sums, frames, what a scan finds; names of files.
-/
import Derived.Test.YtmjfoggnkcjjjaaGreatDoorDkP
import Derived.Lib.ItoaNum
namespace Go.Proofs.YtmjfoggnkcjjjaaGreatDoor
set_option linter.all false
/-! ### Sums -/
def stepN (x : Nat) : Nat := if x % 2 = 1 then (x >>> 1) ^^^ 3988292384 else x >>> 1
def tabN (x : Nat) : Nat := stepN (stepN (stepN (stepN (stepN (stepN (stepN (stepN x)))))))
def regN (x : Nat) (b : UInt8) : Nat := (x >>> 8) ^^^ tabN ((x % 256) ^^^ b.toNat)
def sumN (l : Bt) : Nat := 4294967295 ^^^ l.foldl regN 4294967295
theorem stepN_lt {x : Nat} (h : x < 4294967296) : stepN x < 4294967296 := by
  have h1 : x >>> 1 < 2 ^ 32 := by rw [Nat.shiftRight_eq_div_pow]; omega
  unfold stepN
  split
  · exact Nat.xor_lt_two_pow (n := 32) h1 (by omega)
  · exact h1
theorem tabN_lt {x : Nat} (h : x < 4294967296) : tabN x < 4294967296 := stepN_lt (stepN_lt (stepN_lt (stepN_lt (stepN_lt (stepN_lt (stepN_lt (stepN_lt h)))))))
theorem low_lt (x : Nat) (b : UInt8) : (x % 256) ^^^ b.toNat < 256 := Nat.xor_lt_two_pow (n := 8) (by omega) b.toNat_lt
theorem regN_lt {x : Nat} (h : x < 4294967296) (b : UInt8) : regN x b < 4294967296 := by
  refine Nat.xor_lt_two_pow (n := 32) ?_ (tabN_lt (Nat.lt_trans (low_lt x b) (by omega)))
  rw [Nat.shiftRight_eq_div_pow]; omega
theorem fold_lt (l : Bt) : ∀ {x : Nat}, x < 4294967296 → l.foldl regN x < 4294967296 := by
  induction l with
  | nil => intro x h; exact h
  | cons b l ih => intro x h; exact ih (regN_lt h b)
theorem sumN_lt (l : Bt) : sumN l < 4294967296 := Nat.xor_lt_two_pow (n := 32) (by omega) (fold_lt l (by omega))
/-! ### Frames -/
def be4 (n : Nat) : Bt := [UInt8.ofNat (n / 16777216), UInt8.ofNat (n / 65536), UInt8.ofNat (n / 256), UInt8.ofNat n]
def le4 (n : Nat) : Bt := [UInt8.ofNat n, UInt8.ofNat (n / 256), UInt8.ofNat (n / 65536), UInt8.ofNat (n / 16777216)]
def num4 (a b c d : UInt8) : Nat := a.toNat * 16777216 + b.toNat * 65536 + c.toNat * 256 + d.toNat
theorem num4_be {n : Nat} (h : n < 4294967296) : num4 (UInt8.ofNat (n / 16777216)) (UInt8.ofNat (n / 65536)) (UInt8.ofNat (n / 256)) (UInt8.ofNat n) = n := by
  simp only [num4, UInt8.toNat_ofNat']
  omega
theorem num4_lt (a b c d : UInt8) : num4 a b c d < 4294967296 := by
  have := a.toNat_lt; have := b.toNat_lt; have := c.toNat_lt; have := d.toNat_lt
  unfold num4; omega
def frameB (b : Bt) : Bt := be4 b.length ++ (le4 (sumN (be4 b.length ++ b)) ++ b)
theorem frame_len (b : Bt) : (frameB b).length = 8 + b.length := by simp [frameB, be4, le4]; omega
def openB : Bt → Option Bt
  | a :: b :: c :: d :: e :: f :: g :: h :: r =>
    if num4 a b c d ≤ 1048576 ∧ num4 a b c d ≤ r.length ∧ sumN (a :: b :: c :: d :: r.take (num4 a b c d)) = num4 h g f e then some (r.take (num4 a b c d)) else none
  | _ => none
theorem openB_eight {s : Bt} (h : 8 ≤ s.length) : ∃ a b c d e f g i r, s = a :: b :: c :: d :: e :: f :: g :: i :: r := by
  match s, h with
  | a :: b :: c :: d :: e :: f :: g :: i :: r, _ => exact ⟨a, b, c, d, e, f, g, i, r, rfl⟩
theorem openB_short {s : Bt} (h : s.length < 8) : openB s = none := by
  unfold openB
  split
  · simp at h; omega
  · rfl
theorem openB_frame (b r : Bt) (h : b.length ≤ 1048576) : openB (frameB b ++ r) = some b := by
  have e1 := num4_be (n := b.length) (by omega)
  have e2 := num4_be (sumN_lt (be4 b.length ++ b))
  have : frameB b ++ r = UInt8.ofNat (b.length / 16777216) :: UInt8.ofNat (b.length / 65536) :: UInt8.ofNat (b.length / 256) :: UInt8.ofNat b.length :: UInt8.ofNat (sumN (be4 b.length ++ b)) :: UInt8.ofNat (sumN (be4 b.length ++ b) / 256) :: UInt8.ofNat (sumN (be4 b.length ++ b) / 65536) :: UInt8.ofNat (sumN (be4 b.length ++ b) / 16777216) :: (b ++ r) := by
    simp [frameB, be4, le4]
  rw [this, openB, e1, e2, List.take_left, if_pos]
  exact ⟨h, by simp, rfl⟩
theorem frameB_take {b : Bt} {k : Nat} (hk : k < (frameB b).length) (h : b.length ≤ 1048576) : openB ((frameB b).take k) = none := by
  rw [frame_len] at hk
  by_cases h8 : k < 8
  · exact openB_short (by rw [List.length_take]; omega)
  · have e1 := num4_be (n := b.length) (by omega)
    obtain ⟨j, rfl⟩ : ∃ j, k = j + 8 := ⟨k - 8, by omega⟩
    have : (frameB b).take (j + 8) = UInt8.ofNat (b.length / 16777216) :: UInt8.ofNat (b.length / 65536) :: UInt8.ofNat (b.length / 256) :: UInt8.ofNat b.length :: UInt8.ofNat (sumN (be4 b.length ++ b)) :: UInt8.ofNat (sumN (be4 b.length ++ b) / 256) :: UInt8.ofNat (sumN (be4 b.length ++ b) / 65536) :: UInt8.ofNat (sumN (be4 b.length ++ b) / 16777216) :: b.take j := by
      simp [frameB, be4, le4]
    rw [this, openB, e1, if_neg]
    rintro ⟨_, h2, _⟩
    rw [List.length_take] at h2; omega
theorem u8_back (a b c d : UInt8) : [a, b, c, d] = be4 (num4 a b c d) := by
  have := a.toNat_lt; have := b.toNat_lt; have := c.toNat_lt; have := d.toNat_lt
  have e : ∀ (x : UInt8) (n : Nat), x.toNat = n % 256 → x = UInt8.ofNat n := fun x n h => UInt8.toNat_inj.1 (by rw [UInt8.toNat_ofNat', h])
  unfold be4 num4
  rw [← e a _ (by omega), ← e b _ (by omega), ← e c _ (by omega), ← e d _ (by omega)]
theorem u8_back' (a b c d : UInt8) : [a, b, c, d] = le4 (num4 d c b a) := by
  have := u8_back d c b a
  simp only [be4, le4, List.cons.injEq, and_true] at this ⊢
  exact ⟨this.2.2.2, this.2.2.1, this.2.1, this.1⟩
theorem openB_cons (a b c d e f g h : UInt8) (r : Bt) (n : Nat) (hn : num4 a b c d = n) : openB (a :: b :: c :: d :: e :: f :: g :: h :: r) = if n ≤ 1048576 ∧ n ≤ r.length ∧ sumN (a :: b :: c :: d :: r.take n) = num4 h g f e then some (r.take n) else none := by subst hn; rfl
theorem be4_app (a b c d : UInt8) (n : Nat) (hn : num4 a b c d = n) (t : Bt) : be4 n ++ t = a :: b :: c :: d :: t := by subst hn; rw [← u8_back]; rfl
theorem le4_app (a b c d : UInt8) (n : Nat) (hn : num4 d c b a = n) (t : Bt) : le4 n ++ t = a :: b :: c :: d :: t := by subst hn; rw [← u8_back']; rfl
theorem openB_some {s b : Bt} (h : openB s = some b) : b.length ≤ 1048576 ∧ 8 + b.length ≤ s.length ∧ s.take (8 + b.length) = frameB b := by
  by_cases h8 : s.length < 8
  · rw [openB_short h8] at h; cases h
  · obtain ⟨a, b', c, d, e, f, g, i, r, rfl⟩ := openB_eight (Nat.le_of_not_lt h8)
    obtain ⟨n, hn⟩ : ∃ n, num4 a b' c d = n := ⟨_, rfl⟩
    obtain ⟨m, hm⟩ : ∃ m, num4 i g f e = m := ⟨_, rfl⟩
    rw [openB_cons a b' c d e f g i r n hn, hm] at h
    by_cases hc : n ≤ 1048576 ∧ n ≤ r.length ∧ sumN (a :: b' :: c :: d :: r.take n) = m
    · rw [if_pos hc] at h
      obtain ⟨h1, h2, h3⟩ := hc
      have hb := (Option.some.inj h).symm
      have hl : b.length = n := by rw [hb, List.length_take]; omega
      refine ⟨by omega, by simp; omega, ?_⟩
      have e1 : be4 n ++ b = a :: b' :: c :: d :: r.take n := by rw [be4_app a b' c d n hn, hb]
      rw [frameB, hl, e1, h3, le4_app e f g i m hm, be4_app a b' c d n hn, hb]
      have : 8 + n = n + 8 := by omega
      rw [this]
      clear hn hm h h3 e1
      simp
    · rw [if_neg hc] at h; cases h
/-! ### Scanning -/
def goodB (rs : List Bt) : Nat := (rs.map fun b => 8 + b.length).sum
def framesB (rs : List Bt) : Bt := (rs.map frameB).flatten
theorem frames_len (rs : List Bt) : (framesB rs).length = goodB rs := by
  induction rs with
  | nil => rfl
  | cons b rs ih => simp only [framesB, goodB, List.map_cons, List.flatten_cons, List.length_append, List.sum_cons, frame_len] at ih ⊢; rw [ih]
theorem frames_app (a b : List Bt) : framesB (a ++ b) = framesB a ++ framesB b := by simp [framesB]
theorem good_app (a b : List Bt) : goodB (a ++ b) = goodB a + goodB b := by simp [goodB]
theorem good_cons (b : Bt) (rs : List Bt) : goodB (b :: rs) = 8 + b.length + goodB rs := by simp [goodB]
theorem frames_cons (b : Bt) (rs : List Bt) : framesB (b :: rs) = frameB b ++ framesB rs := rfl
def scanF : Nat → Bt → List Bt
  | 0, _ => []
  | k + 1, s => match openB s with
    | none => []
    | some b => b :: scanF k (s.drop (8 + b.length))
def scanB (s : Bt) : List Bt := scanF s.length s
theorem scanF_fuel : ∀ (k j : Nat) (s : Bt), s.length ≤ k → s.length ≤ j → scanF k s = scanF j s
  | 0, 0, _, _, _ => rfl
  | 0, j + 1, s, h, _ => by
    have : openB s = none := openB_short (by omega)
    simp [scanF, this]
  | k + 1, 0, s, _, h => by
    have : openB s = none := openB_short (by omega)
    simp [scanF, this]
  | k + 1, j + 1, s, h1, h2 => by
    unfold scanF
    cases ho : openB s with
    | none => rfl
    | some b =>
      obtain ⟨_, h3, _⟩ := openB_some ho
      simp only
      rw [scanF_fuel k j _ (by rw [List.length_drop]; omega) (by rw [List.length_drop]; omega)]
theorem scan_none {s : Bt} (h : openB s = none) : scanB s = [] := by
  unfold scanB
  cases hl : s.length with
  | zero => rfl
  | succ k => simp [scanF, h]
theorem scan_some {s b : Bt} (h : openB s = some b) : scanB s = b :: scanB (s.drop (8 + b.length)) := by
  obtain ⟨_, h3, _⟩ := openB_some h
  unfold scanB
  cases hl : s.length with
  | zero => omega
  | succ k =>
    rw [scanF, h]
    simp only
    rw [scanF_fuel k _ _ (by rw [List.length_drop]; omega) (Nat.le_refl _)]
theorem scan_frames (rs : List Bt) (t : Bt) (h : ∀ b ∈ rs, b.length ≤ 1048576) : scanB (framesB rs ++ t) = rs ++ scanB t := by
  induction rs with
  | nil => rfl
  | cons b rs ih =>
    have h1 := openB_frame b (framesB rs ++ t) (h b (by simp))
    rw [frames_cons, List.append_assoc, scan_some h1, List.drop_left' (frame_len b), ih fun x hx => h x (by simp [hx])]
    rfl
theorem scan_good : ∀ (n : Nat) (s : Bt), s.length ≤ n → goodB (scanB s) ≤ s.length ∧ s.take (goodB (scanB s)) = framesB (scanB s) ∧ (∀ b ∈ scanB s, b.length ≤ 1048576) ∧ openB (s.drop (goodB (scanB s))) = none
  | n, s, hn => by
    cases ho : openB s with
    | none => rw [scan_none ho]; exact ⟨Nat.zero_le _, rfl, (by simp), ho⟩
    | some b =>
      obtain ⟨h1, h2, h3⟩ := openB_some ho
      cases n with
      | zero => omega
      | succ n =>
        obtain ⟨g1, g2, g3, g4⟩ := scan_good n (s.drop (8 + b.length)) (by rw [List.length_drop]; omega)
        rw [scan_some ho, good_cons, frames_cons]
        rw [List.length_drop] at g1
        refine ⟨by omega, ?_, ?_, ?_⟩
        · rw [List.take_add, h3, g2]
        · intro x hx
          rcases List.mem_cons.1 hx with rfl | hx
          · exact h1
          · exact g3 x hx
        · rw [List.drop_drop] at g4; exact g4
theorem scan_cut (rs : List Bt) (h : ∀ b ∈ rs, b.length ≤ 1048576) : ∀ (k : Nat), k ≤ goodB rs → ∃ j, j ≤ rs.length ∧ scanB ((framesB rs).take k) = rs.take j ∧ goodB (rs.take j) ≤ k ∧ ∀ i, i ≤ rs.length → goodB (rs.take i) ≤ k → i ≤ j := by
  induction rs with
  | nil => intro k hk; exact ⟨0, by simp, by simp [framesB, scan_none (openB_short (s := []) (by simp))], by simp [goodB], fun i hi _ => by simpa using hi⟩
  | cons b rs ih =>
    intro k hk
    have hb := h b (by simp)
    rw [good_cons] at hk
    by_cases hkb : k < 8 + b.length
    · refine ⟨0, by simp, ?_, by simp [goodB], fun i hi hg => ?_⟩
      · rw [frames_cons, List.take_append_of_le_length (by rw [frame_len]; omega)]
        exact scan_none (frameB_take (by rw [frame_len]; exact hkb) hb)
      · cases i with
        | zero => omega
        | succ i => rw [List.take_succ_cons, good_cons] at hg; omega
    · obtain ⟨j, h1, h2, h3, h4⟩ := ih (fun x hx => h x (by simp [hx])) (k - (8 + b.length)) (by omega)
      refine ⟨j + 1, by simp; omega, ?_, ?_, fun i hi hg => ?_⟩
      · have e : (framesB (b :: rs)).take k = frameB b ++ (framesB rs).take (k - (8 + b.length)) := by
          rw [frames_cons, List.take_append, frame_len, List.take_of_length_le (by rw [frame_len]; omega)]
        rw [e, scan_some (openB_frame b _ hb), List.drop_left' (frame_len b), h2]
        rfl
      · rw [List.take_succ_cons, good_cons]; omega
      · cases i with
        | zero => omega
        | succ i =>
          rw [List.take_succ_cons, good_cons] at hg
          have := h4 i (by simpa using hi) (by omega)
          omega
/-! ### Names -/
open Go.Lib
def pad16 (n : Nat) : Bt := List.replicate (16 - (decDigits n).length) 48 ++ decDigits n
def nameW (p : Bt) (n : Nat) : Bt := p ++ pad16 n
def isDig (b : UInt8) : Bool := decide (48 ≤ b.toNat) && decide (b.toNat ≤ 57)
def decV (l : Bt) : Nat := l.foldl (fun n b => 10 * n + (b.toNat - 48)) 0
def numberB (d : Bt) : Nat := if d.length = 16 ∧ d.all isDig = true ∧ decV d ≤ 1000000000000000 then decV d else 0
/-- k digits of a number. -/
def digsK : Nat → Nat → Bt
  | 0, _ => []
  | k + 1, n => digsK k (n / 10) ++ [UInt8.ofNat (48 + n % 10)]
theorem digsK_len : ∀ k n, (digsK k n).length = k
  | 0, _ => rfl
  | k + 1, n => by simp [digsK, digsK_len k]
theorem dig_toNat (n : Nat) : (UInt8.ofNat (48 + n % 10)).toNat = 48 + n % 10 := by rw [UInt8.toNat_ofNat']; omega
theorem digsK_dig : ∀ k n, (digsK k n).all isDig = true
  | 0, _ => rfl
  | k + 1, n => by
    rw [digsK, List.all_append, digsK_dig k, List.all_cons, List.all_nil, isDig, dig_toNat]
    simp; omega
theorem decV_snoc (l : Bt) (b : UInt8) : decV (l ++ [b]) = 10 * decV l + (b.toNat - 48) := by simp [decV]
theorem decV_digsK : ∀ k n, n < 10 ^ k → decV (digsK k n) = n
  | 0, n, h => by simp at h; subst h; rfl
  | k + 1, n, h => by
    rw [Nat.pow_succ] at h
    rw [digsK, decV_snoc, decV_digsK k (n / 10) (by omega), dig_toNat]
    omega
theorem digsK_decV : ∀ (k : Nat) (l : Bt), l.length = k → l.all isDig = true → digsK k (decV l) = l ∧ decV l < 10 ^ k
  | 0, l, hl, _ => by rw [List.eq_nil_of_length_eq_zero hl]; exact ⟨rfl, by simp [decV]⟩
  | k + 1, l, hl, hd => by
    obtain ⟨l', b, rfl⟩ : ∃ l' b, l = l' ++ [b] := ⟨l.dropLast, l.getLast (by intro e; rw [e] at hl; simp at hl), (List.dropLast_concat_getLast _).symm⟩
    rw [List.all_append, Bool.and_eq_true] at hd
    obtain ⟨h1, h2⟩ := hd
    obtain ⟨g1, g2⟩ := digsK_decV k l' (by simpa using hl) h1
    simp only [List.all_cons, List.all_nil, Bool.and_true, isDig, Bool.and_eq_true, decide_eq_true_eq] at h2
    rw [decV_snoc, digsK]
    have e1 : (10 * decV l' + (b.toNat - 48)) / 10 = decV l' := by omega
    have e2 : (10 * decV l' + (b.toNat - 48)) % 10 = b.toNat - 48 := by omega
    rw [e1, e2, g1]
    refine ⟨?_, by rw [Nat.pow_succ]; omega⟩
    congr 2
    refine UInt8.toNat_inj.1 ?_
    rw [UInt8.toNat_ofNat']; omega
theorem digsK_rep (k n : Nat) : n < 10 → digsK (k + 1) n = List.replicate k 48 ++ [UInt8.ofNat (48 + n)] := by
  intro h
  have hz : ∀ k, digsK k 0 = List.replicate k 48 := fun k => by
    induction k with
    | zero => rfl
    | succ k ih => rw [digsK, Nat.zero_div, ih, List.replicate_succ']; rfl
  rw [digsK, show n / 10 = 0 by omega, show n % 10 = n by omega, hz]
theorem digsK_dec (k : Nat) : ∀ n, n < 10 ^ k → 1 ≤ k → digsK k n = List.replicate (k - (decDigits n).length) 48 ++ decDigits n := by
  induction k with
  | zero => intro n _ h; omega
  | succ k ih =>
    intro n hn _
    by_cases h : n < 10
    · rw [digsK_rep k n h, decDigits, dif_pos h]; rfl
    · have hk : 1 ≤ k := by
        rcases Nat.eq_zero_or_pos k with rfl | hk
        · simp at hn; omega
        · exact hk
      rw [digsK, ih (n / 10) (by rw [Nat.pow_succ] at hn; omega) hk]
      conv => rhs; rw [decDigits, dif_neg h]
      simp
theorem pad16_eq {n : Nat} (h : n < 10 ^ 16) : pad16 n = digsK 16 n := (digsK_dec 16 n h (by omega)).symm
theorem pad16_len {n : Nat} (h : n < 10 ^ 16) : (pad16 n).length = 16 := by rw [pad16_eq h, digsK_len]
theorem number_pad {n : Nat} (h : n ≤ 1000000000000000) : numberB (pad16 n) = n := by
  have h16 : n < 10 ^ 16 := by omega
  rw [numberB, pad16_eq h16, decV_digsK 16 n h16, if_pos ⟨digsK_len 16 n, digsK_dig 16 n, h⟩]
theorem pad_number {d : Bt} (h : 0 < numberB d) : pad16 (numberB d) = d ∧ numberB d ≤ 1000000000000000 := by
  unfold numberB at h ⊢
  split at h
  · rename_i hc
    obtain ⟨h1, h2, h3⟩ := hc
    rw [if_pos ⟨h1, h2, h3⟩]
    exact ⟨by rw [pad16_eq (by omega)]; exact (digsK_decV 16 d h1 h2).1, h3⟩
  · omega
theorem pad_inj {n m : Nat} (hn : n ≤ 1000000000000000) (hm : m ≤ 1000000000000000) (h : pad16 n = pad16 m) : n = m := by rw [← number_pad hn, ← number_pad hm, h]
theorem name_inj {p : Bt} {n m : Nat} (hn : n ≤ 1000000000000000) (hm : m ≤ 1000000000000000) (h : nameW p n = nameW p m) : n = m := pad_inj hn hm (List.append_cancel_left h)
theorem lt_snoc : ∀ (a b : Bt) (x y : UInt8), a.length = b.length → (a ++ [x] < b ++ [y] ↔ a < b ∨ (a = b ∧ x < y))
  | [], [], x, y, _ => by rw [List.nil_append, List.nil_append, List.cons_lt_cons_iff]; simp
  | a :: l, b :: m, x, y, h => by
    have h' : l.length = m.length := by simpa using h
    rw [List.cons_append, List.cons_append, List.cons_lt_cons_iff, List.cons_lt_cons_iff, lt_snoc l m x y h']
    constructor
    · rintro (h1 | ⟨h1, h2 | ⟨h2, h3⟩⟩)
      · exact .inl (.inl h1)
      · exact .inl (.inr ⟨h1, h2⟩)
      · exact .inr ⟨by rw [h1, h2], h3⟩
    · rintro ((h1 | ⟨h1, h2⟩) | ⟨h1, h2⟩)
      · exact .inl h1
      · exact .inr ⟨h1, .inl h2⟩
      · obtain ⟨e1, e2⟩ := List.cons.inj h1
        exact .inr ⟨e1, .inr ⟨e2, h2⟩⟩
theorem digsK_lt : ∀ (k n m : Nat), n < 10 ^ k → m < 10 ^ k → (digsK k n < digsK k m ↔ n < m)
  | 0, n, m, hn, hm => by simp at hn hm; subst hn; subst hm; simp [digsK]
  | k + 1, n, m, hn, hm => by
    rw [Nat.pow_succ] at hn hm
    have ih := digsK_lt k (n / 10) (m / 10) (by omega) (by omega)
    rw [digsK, digsK, lt_snoc _ _ _ _ (by rw [digsK_len, digsK_len]), ih, UInt8.lt_iff_toNat_lt, dig_toNat, dig_toNat]
    constructor
    · rintro (h | ⟨h1, h2⟩)
      · omega
      · have := congrArg decV h1
        rw [decV_digsK k _ (by omega), decV_digsK k _ (by omega)] at this
        omega
    · intro h
      by_cases h1 : n / 10 < m / 10
      · exact .inl h1
      · exact .inr ⟨by rw [show n / 10 = m / 10 by omega], by omega⟩
theorem append_lt_iff (p a b : Bt) : p ++ a < p ++ b ↔ a < b := by
  induction p with
  | nil => rfl
  | cons x p ih => rw [List.cons_append, List.cons_append, List.cons_lt_cons_iff, ih]; constructor
                   · rintro (h | ⟨_, h⟩)
                     · exact absurd h (UInt8.lt_irrefl x)
                     · exact h
                   · exact fun h => .inr ⟨rfl, h⟩
theorem name_lt {p : Bt} {n m : Nat} (hn : n ≤ 1000000000000000) (hm : m ≤ 1000000000000000) : nameW p n < nameW p m ↔ n < m := by
  rw [nameW, nameW, append_lt_iff, pad16_eq (by omega), pad16_eq (by omega), digsK_lt 16 n m (by omega) (by omega)]
#print axioms name_lt
#print axioms scan_cut
end Go.Proofs.YtmjfoggnkcjjjaaGreatDoor
