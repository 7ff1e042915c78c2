/-
  Logs, in plain Lean: sums, frames, what a scan finds; names of files. Logs, in plain Lean: what Open, Append, Sync, Cut, Drop, Get make of a disk and a log's files. Disks by names, in plain Lean: what a name has behind Append, Sync, Rename, Remove, Crash; the log's files on a disk. Logs, in plain Lean: the invariant of a log on its disk; Open, Append, Sync, a crash, Drop, Cut keep it. Logs, in plain Lean: Append, a crash and Open, Drop, Cut keep the invariant of a log. WalLasts in plain Lean: a log that is appended to, synced at some place, behind a crash.
-/
import Derived.Test.YtdngjkjoahgelaaGreatDoorDkP
import Derived.Lib.ItoaNum
namespace Go.Proofs.YtdngjkjoahgelaaGreatDoor
set_option linter.all false
/-! ### Sums -/
def stepN (x : Nat) : Nat := if x % 2 = 1 then (x >>> 1) ^^^ 3988292384 else x >>> 1
def tabN (x : Nat) : Nat := stepN (stepN (stepN (stepN (stepN (stepN (stepN (stepN x)))))))
def regN (x : Nat) (b : UInt8) : Nat := (x >>> 8) ^^^ tabN ((x % 256) ^^^ b.toNat)
def sumN (l : Bt) : Nat := 4294967295 ^^^ l.foldl regN 4294967295
theorem stepN_lt {x : Nat} (h : x < 4294967296) : stepN x < 4294967296 := by
  have h1 : x >>> 1 < 2 ^ 32 := by rw [Nat.shiftRight_eq_div_pow]; omega
  unfold stepN
  split
  · exact Nat.xor_lt_two_pow (n := 32) h1 (by omega)
  · exact h1
theorem tabN_lt {x : Nat} (h : x < 4294967296) : tabN x < 4294967296 := stepN_lt (stepN_lt (stepN_lt (stepN_lt (stepN_lt (stepN_lt (stepN_lt (stepN_lt h)))))))
theorem low_lt (x : Nat) (b : UInt8) : (x % 256) ^^^ b.toNat < 256 := Nat.xor_lt_two_pow (n := 8) (by omega) b.toNat_lt
theorem regN_lt {x : Nat} (h : x < 4294967296) (b : UInt8) : regN x b < 4294967296 := by
  refine Nat.xor_lt_two_pow (n := 32) ?_ (tabN_lt (Nat.lt_trans (low_lt x b) (by omega)))
  rw [Nat.shiftRight_eq_div_pow]; omega
theorem fold_lt (l : Bt) : ∀ {x : Nat}, x < 4294967296 → l.foldl regN x < 4294967296 := by
  induction l with
  | nil => intro x h; exact h
  | cons b l ih => intro x h; exact ih (regN_lt h b)
theorem sumN_lt (l : Bt) : sumN l < 4294967296 := Nat.xor_lt_two_pow (n := 32) (by omega) (fold_lt l (by omega))
/-! ### Frames -/
def be4 (n : Nat) : Bt := [UInt8.ofNat (n / 16777216), UInt8.ofNat (n / 65536), UInt8.ofNat (n / 256), UInt8.ofNat n]
def le4 (n : Nat) : Bt := [UInt8.ofNat n, UInt8.ofNat (n / 256), UInt8.ofNat (n / 65536), UInt8.ofNat (n / 16777216)]
def num4 (a b c d : UInt8) : Nat := a.toNat * 16777216 + b.toNat * 65536 + c.toNat * 256 + d.toNat
theorem num4_be {n : Nat} (h : n < 4294967296) : num4 (UInt8.ofNat (n / 16777216)) (UInt8.ofNat (n / 65536)) (UInt8.ofNat (n / 256)) (UInt8.ofNat n) = n := by
  simp only [num4, UInt8.toNat_ofNat']
  omega
def frameB (b : Bt) : Bt := be4 b.length ++ (le4 (sumN (be4 b.length ++ b)) ++ b)
theorem frame_len (b : Bt) : (frameB b).length = 8 + b.length := by simp [frameB, be4, le4]; omega
def openB : Bt → Option Bt
  | a :: b :: c :: d :: e :: f :: g :: h :: r =>
    if num4 a b c d ≤ 1048576 ∧ num4 a b c d ≤ r.length ∧ sumN (a :: b :: c :: d :: r.take (num4 a b c d)) = num4 h g f e then some (r.take (num4 a b c d)) else none
  | _ => none
theorem openB_eight {s : Bt} (h : 8 ≤ s.length) : ∃ a b c d e f g i r, s = a :: b :: c :: d :: e :: f :: g :: i :: r := by
  match s, h with
  | a :: b :: c :: d :: e :: f :: g :: i :: r, _ => exact ⟨a, b, c, d, e, f, g, i, r, rfl⟩
theorem openB_short {s : Bt} (h : s.length < 8) : openB s = none := by
  unfold openB
  split
  · simp at h; omega
  · rfl
theorem openB_frame (b r : Bt) (h : b.length ≤ 1048576) : openB (frameB b ++ r) = some b := by
  have e1 := num4_be (n := b.length) (by omega)
  have e2 := num4_be (sumN_lt (be4 b.length ++ b))
  have : frameB b ++ r = UInt8.ofNat (b.length / 16777216) :: UInt8.ofNat (b.length / 65536) :: UInt8.ofNat (b.length / 256) :: UInt8.ofNat b.length :: UInt8.ofNat (sumN (be4 b.length ++ b)) :: UInt8.ofNat (sumN (be4 b.length ++ b) / 256) :: UInt8.ofNat (sumN (be4 b.length ++ b) / 65536) :: UInt8.ofNat (sumN (be4 b.length ++ b) / 16777216) :: (b ++ r) := by
    simp [frameB, be4, le4]
  rw [this, openB, e1, e2, List.take_left, if_pos]
  exact ⟨h, by simp, rfl⟩
theorem frameB_take {b : Bt} {k : Nat} (hk : k < (frameB b).length) (h : b.length ≤ 1048576) : openB ((frameB b).take k) = none := by
  rw [frame_len] at hk
  by_cases h8 : k < 8
  · exact openB_short (by rw [List.length_take]; omega)
  · have e1 := num4_be (n := b.length) (by omega)
    obtain ⟨j, rfl⟩ : ∃ j, k = j + 8 := ⟨k - 8, by omega⟩
    have : (frameB b).take (j + 8) = UInt8.ofNat (b.length / 16777216) :: UInt8.ofNat (b.length / 65536) :: UInt8.ofNat (b.length / 256) :: UInt8.ofNat b.length :: UInt8.ofNat (sumN (be4 b.length ++ b)) :: UInt8.ofNat (sumN (be4 b.length ++ b) / 256) :: UInt8.ofNat (sumN (be4 b.length ++ b) / 65536) :: UInt8.ofNat (sumN (be4 b.length ++ b) / 16777216) :: b.take j := by
      simp [frameB, be4, le4]
    rw [this, openB, e1, if_neg]
    rintro ⟨_, h2, _⟩
    rw [List.length_take] at h2; omega
theorem u8_back (a b c d : UInt8) : [a, b, c, d] = be4 (num4 a b c d) := by
  have := a.toNat_lt; have := b.toNat_lt; have := c.toNat_lt; have := d.toNat_lt
  have e : ∀ (x : UInt8) (n : Nat), x.toNat = n % 256 → x = UInt8.ofNat n := fun x n h => UInt8.toNat_inj.1 (by rw [UInt8.toNat_ofNat', h])
  unfold be4 num4
  rw [← e a _ (by omega), ← e b _ (by omega), ← e c _ (by omega), ← e d _ (by omega)]
theorem u8_back' (a b c d : UInt8) : [a, b, c, d] = le4 (num4 d c b a) := by
  have := u8_back d c b a
  simp only [be4, le4, List.cons.injEq, and_true] at this ⊢
  exact ⟨this.2.2.2, this.2.2.1, this.2.1, this.1⟩
theorem openB_cons (a b c d e f g h : UInt8) (r : Bt) (n : Nat) (hn : num4 a b c d = n) : openB (a :: b :: c :: d :: e :: f :: g :: h :: r) = if n ≤ 1048576 ∧ n ≤ r.length ∧ sumN (a :: b :: c :: d :: r.take n) = num4 h g f e then some (r.take n) else none := by subst hn; rfl
theorem be4_app (a b c d : UInt8) (n : Nat) (hn : num4 a b c d = n) (t : Bt) : be4 n ++ t = a :: b :: c :: d :: t := by subst hn; rw [← u8_back]; rfl
theorem le4_app (a b c d : UInt8) (n : Nat) (hn : num4 d c b a = n) (t : Bt) : le4 n ++ t = a :: b :: c :: d :: t := by subst hn; rw [← u8_back']; rfl
theorem openB_some {s b : Bt} (h : openB s = some b) : b.length ≤ 1048576 ∧ 8 + b.length ≤ s.length ∧ s.take (8 + b.length) = frameB b := by
  by_cases h8 : s.length < 8
  · rw [openB_short h8] at h; cases h
  · obtain ⟨a, b', c, d, e, f, g, i, r, rfl⟩ := openB_eight (Nat.le_of_not_lt h8)
    obtain ⟨n, hn⟩ : ∃ n, num4 a b' c d = n := ⟨_, rfl⟩
    obtain ⟨m, hm⟩ : ∃ m, num4 i g f e = m := ⟨_, rfl⟩
    rw [openB_cons a b' c d e f g i r n hn, hm] at h
    by_cases hc : n ≤ 1048576 ∧ n ≤ r.length ∧ sumN (a :: b' :: c :: d :: r.take n) = m
    · rw [if_pos hc] at h
      obtain ⟨h1, h2, h3⟩ := hc
      have hb := (Option.some.inj h).symm
      have hl : b.length = n := by rw [hb, List.length_take]; omega
      refine ⟨by omega, by simp; omega, ?_⟩
      have e1 : be4 n ++ b = a :: b' :: c :: d :: r.take n := by rw [be4_app a b' c d n hn, hb]
      rw [frameB, hl, e1, h3, le4_app e f g i m hm, be4_app a b' c d n hn, hb]
      have : 8 + n = n + 8 := by omega
      rw [this]
      clear hn hm h h3 e1
      simp
    · rw [if_neg hc] at h; cases h
/-! ### Scanning -/
def goodB (rs : List Bt) : Nat := (rs.map fun b => 8 + b.length).sum
def framesB (rs : List Bt) : Bt := (rs.map frameB).flatten
theorem frames_len (rs : List Bt) : (framesB rs).length = goodB rs := by
  induction rs with
  | nil => rfl
  | cons b rs ih => simp only [framesB, goodB, List.map_cons, List.flatten_cons, List.length_append, List.sum_cons, frame_len] at ih ⊢; rw [ih]
theorem frames_app (a b : List Bt) : framesB (a ++ b) = framesB a ++ framesB b := by simp [framesB]
theorem good_app (a b : List Bt) : goodB (a ++ b) = goodB a + goodB b := by simp [goodB]
theorem good_cons (b : Bt) (rs : List Bt) : goodB (b :: rs) = 8 + b.length + goodB rs := by simp [goodB]
theorem frames_cons (b : Bt) (rs : List Bt) : framesB (b :: rs) = frameB b ++ framesB rs := rfl
def scanF : Nat → Bt → List Bt
  | 0, _ => []
  | k + 1, s => match openB s with
    | none => []
    | some b => b :: scanF k (s.drop (8 + b.length))
def scanB (s : Bt) : List Bt := scanF s.length s
theorem scanF_fuel : ∀ (k j : Nat) (s : Bt), s.length ≤ k → s.length ≤ j → scanF k s = scanF j s
  | 0, 0, _, _, _ => rfl
  | 0, j + 1, s, h, _ => by
    have : openB s = none := openB_short (by omega)
    simp [scanF, this]
  | k + 1, 0, s, _, h => by
    have : openB s = none := openB_short (by omega)
    simp [scanF, this]
  | k + 1, j + 1, s, h1, h2 => by
    unfold scanF
    cases ho : openB s with
    | none => rfl
    | some b =>
      obtain ⟨_, h3, _⟩ := openB_some ho
      simp only
      rw [scanF_fuel k j _ (by rw [List.length_drop]; omega) (by rw [List.length_drop]; omega)]
theorem scan_none {s : Bt} (h : openB s = none) : scanB s = [] := by
  unfold scanB
  cases hl : s.length with
  | zero => rfl
  | succ k => simp [scanF, h]
theorem scan_some {s b : Bt} (h : openB s = some b) : scanB s = b :: scanB (s.drop (8 + b.length)) := by
  obtain ⟨_, h3, _⟩ := openB_some h
  unfold scanB
  cases hl : s.length with
  | zero => omega
  | succ k =>
    rw [scanF, h]
    simp only
    rw [scanF_fuel k _ _ (by rw [List.length_drop]; omega) (Nat.le_refl _)]
theorem scan_frames (rs : List Bt) (t : Bt) (h : ∀ b ∈ rs, b.length ≤ 1048576) : scanB (framesB rs ++ t) = rs ++ scanB t := by
  induction rs with
  | nil => rfl
  | cons b rs ih =>
    have h1 := openB_frame b (framesB rs ++ t) (h b (by simp))
    rw [frames_cons, List.append_assoc, scan_some h1, List.drop_left' (frame_len b), ih fun x hx => h x (by simp [hx])]
    rfl
theorem scan_good : ∀ (n : Nat) (s : Bt), s.length ≤ n → goodB (scanB s) ≤ s.length ∧ s.take (goodB (scanB s)) = framesB (scanB s) ∧ (∀ b ∈ scanB s, b.length ≤ 1048576) ∧ openB (s.drop (goodB (scanB s))) = none
  | n, s, hn => by
    cases ho : openB s with
    | none => rw [scan_none ho]; exact ⟨Nat.zero_le _, rfl, (by simp), ho⟩
    | some b =>
      obtain ⟨h1, h2, h3⟩ := openB_some ho
      cases n with
      | zero => omega
      | succ n =>
        obtain ⟨g1, g2, g3, g4⟩ := scan_good n (s.drop (8 + b.length)) (by rw [List.length_drop]; omega)
        rw [scan_some ho, good_cons, frames_cons]
        rw [List.length_drop] at g1
        refine ⟨by omega, ?_, ?_, ?_⟩
        · rw [List.take_add, h3, g2]
        · intro x hx
          rcases List.mem_cons.1 hx with rfl | hx
          · exact h1
          · exact g3 x hx
        · rw [List.drop_drop] at g4; exact g4
theorem scan_cut (rs : List Bt) (h : ∀ b ∈ rs, b.length ≤ 1048576) : ∀ (k : Nat), k ≤ goodB rs → ∃ j, j ≤ rs.length ∧ scanB ((framesB rs).take k) = rs.take j ∧ goodB (rs.take j) ≤ k ∧ ∀ i, i ≤ rs.length → goodB (rs.take i) ≤ k → i ≤ j := by
  induction rs with
  | nil => intro k hk; exact ⟨0, by simp, by simp [framesB, scan_none (openB_short (s := []) (by simp))], by simp [goodB], fun i hi _ => by simpa using hi⟩
  | cons b rs ih =>
    intro k hk
    have hb := h b (by simp)
    rw [good_cons] at hk
    by_cases hkb : k < 8 + b.length
    · refine ⟨0, by simp, ?_, by simp [goodB], fun i hi hg => ?_⟩
      · rw [frames_cons, List.take_append_of_le_length (by rw [frame_len]; omega)]
        exact scan_none (frameB_take (by rw [frame_len]; exact hkb) hb)
      · cases i with
        | zero => omega
        | succ i => rw [List.take_succ_cons, good_cons] at hg; omega
    · obtain ⟨j, h1, h2, h3, h4⟩ := ih (fun x hx => h x (by simp [hx])) (k - (8 + b.length)) (by omega)
      refine ⟨j + 1, by simp; omega, ?_, ?_, fun i hi hg => ?_⟩
      · have e : (framesB (b :: rs)).take k = frameB b ++ (framesB rs).take (k - (8 + b.length)) := by
          rw [frames_cons, List.take_append, frame_len, List.take_of_length_le (by rw [frame_len]; omega)]
        rw [e, scan_some (openB_frame b _ hb), List.drop_left' (frame_len b), h2]
        rfl
      · rw [List.take_succ_cons, good_cons]; omega
      · cases i with
        | zero => omega
        | succ i =>
          rw [List.take_succ_cons, good_cons] at hg
          have := h4 i (by simpa using hi) (by omega)
          omega
/-! ### Names -/
open Go.Lib
def pad16 (n : Nat) : Bt := List.replicate (16 - (decDigits n).length) 48 ++ decDigits n
def nameW (p : Bt) (n : Nat) : Bt := p ++ pad16 n
def isDig (b : UInt8) : Bool := decide (48 ≤ b.toNat) && decide (b.toNat ≤ 57)
def decV (l : Bt) : Nat := l.foldl (fun n b => 10 * n + (b.toNat - 48)) 0
def numberB (d : Bt) : Nat := if d.length = 16 ∧ d.all isDig = true ∧ decV d ≤ 1000000000000000 then decV d else 0
/-- k digits of a number. -/
def digsK : Nat → Nat → Bt
  | 0, _ => []
  | k + 1, n => digsK k (n / 10) ++ [UInt8.ofNat (48 + n % 10)]
theorem digsK_len : ∀ k n, (digsK k n).length = k
  | 0, _ => rfl
  | k + 1, n => by simp [digsK, digsK_len k]
theorem dig_toNat (n : Nat) : (UInt8.ofNat (48 + n % 10)).toNat = 48 + n % 10 := by rw [UInt8.toNat_ofNat']; omega
theorem digsK_dig : ∀ k n, (digsK k n).all isDig = true
  | 0, _ => rfl
  | k + 1, n => by
    rw [digsK, List.all_append, digsK_dig k, List.all_cons, List.all_nil, isDig, dig_toNat]
    simp; omega
theorem decV_snoc (l : Bt) (b : UInt8) : decV (l ++ [b]) = 10 * decV l + (b.toNat - 48) := by simp [decV]
theorem decV_digsK : ∀ k n, n < 10 ^ k → decV (digsK k n) = n
  | 0, n, h => by simp at h; subst h; rfl
  | k + 1, n, h => by
    rw [Nat.pow_succ] at h
    rw [digsK, decV_snoc, decV_digsK k (n / 10) (by omega), dig_toNat]
    omega
theorem digsK_decV : ∀ (k : Nat) (l : Bt), l.length = k → l.all isDig = true → digsK k (decV l) = l ∧ decV l < 10 ^ k
  | 0, l, hl, _ => by rw [List.eq_nil_of_length_eq_zero hl]; exact ⟨rfl, by simp [decV]⟩
  | k + 1, l, hl, hd => by
    obtain ⟨l', b, rfl⟩ : ∃ l' b, l = l' ++ [b] := ⟨l.dropLast, l.getLast (by intro e; rw [e] at hl; simp at hl), (List.dropLast_concat_getLast _).symm⟩
    rw [List.all_append, Bool.and_eq_true] at hd
    obtain ⟨h1, h2⟩ := hd
    obtain ⟨g1, g2⟩ := digsK_decV k l' (by simpa using hl) h1
    simp only [List.all_cons, List.all_nil, Bool.and_true, isDig, Bool.and_eq_true, decide_eq_true_eq] at h2
    rw [decV_snoc, digsK]
    have e1 : (10 * decV l' + (b.toNat - 48)) / 10 = decV l' := by omega
    have e2 : (10 * decV l' + (b.toNat - 48)) % 10 = b.toNat - 48 := by omega
    rw [e1, e2, g1]
    refine ⟨?_, by rw [Nat.pow_succ]; omega⟩
    congr 2
    refine UInt8.toNat_inj.1 ?_
    rw [UInt8.toNat_ofNat']; omega
theorem digsK_rep (k n : Nat) : n < 10 → digsK (k + 1) n = List.replicate k 48 ++ [UInt8.ofNat (48 + n)] := by
  intro h
  have hz : ∀ k, digsK k 0 = List.replicate k 48 := fun k => by
    induction k with
    | zero => rfl
    | succ k ih => rw [digsK, Nat.zero_div, ih, List.replicate_succ']; rfl
  rw [digsK, show n / 10 = 0 by omega, show n % 10 = n by omega, hz]
theorem digsK_dec (k : Nat) : ∀ n, n < 10 ^ k → 1 ≤ k → digsK k n = List.replicate (k - (decDigits n).length) 48 ++ decDigits n := by
  induction k with
  | zero => intro n _ h; omega
  | succ k ih =>
    intro n hn _
    by_cases h : n < 10
    · rw [digsK_rep k n h, decDigits, dif_pos h]; rfl
    · have hk : 1 ≤ k := by
        rcases Nat.eq_zero_or_pos k with rfl | hk
        · simp at hn; omega
        · exact hk
      rw [digsK, ih (n / 10) (by rw [Nat.pow_succ] at hn; omega) hk]
      conv => rhs; rw [decDigits, dif_neg h]
      simp
theorem pad16_eq {n : Nat} (h : n < 10 ^ 16) : pad16 n = digsK 16 n := (digsK_dec 16 n h (by omega)).symm
theorem pad16_len {n : Nat} (h : n < 10 ^ 16) : (pad16 n).length = 16 := by rw [pad16_eq h, digsK_len]
theorem number_pad {n : Nat} (h : n ≤ 1000000000000000) : numberB (pad16 n) = n := by
  have h16 : n < 10 ^ 16 := by omega
  rw [numberB, pad16_eq h16, decV_digsK 16 n h16, if_pos ⟨digsK_len 16 n, digsK_dig 16 n, h⟩]
theorem pad_number {d : Bt} (h : 0 < numberB d) : pad16 (numberB d) = d ∧ numberB d ≤ 1000000000000000 := by
  unfold numberB at h ⊢
  split at h
  · rename_i hc
    obtain ⟨h1, h2, h3⟩ := hc
    rw [if_pos ⟨h1, h2, h3⟩]
    exact ⟨by rw [pad16_eq (by omega)]; exact (digsK_decV 16 d h1 h2).1, h3⟩
  · omega
theorem pad_inj {n m : Nat} (hn : n ≤ 1000000000000000) (hm : m ≤ 1000000000000000) (h : pad16 n = pad16 m) : n = m := by rw [← number_pad hn, ← number_pad hm, h]
theorem name_inj {p : Bt} {n m : Nat} (hn : n ≤ 1000000000000000) (hm : m ≤ 1000000000000000) (h : nameW p n = nameW p m) : n = m := pad_inj hn hm (List.append_cancel_left h)
theorem lt_snoc : ∀ (a b : Bt) (x y : UInt8), a.length = b.length → (a ++ [x] < b ++ [y] ↔ a < b ∨ (a = b ∧ x < y))
  | [], [], x, y, _ => by rw [List.nil_append, List.nil_append, List.cons_lt_cons_iff]; simp
  | a :: l, b :: m, x, y, h => by
    have h' : l.length = m.length := by simpa using h
    rw [List.cons_append, List.cons_append, List.cons_lt_cons_iff, List.cons_lt_cons_iff, lt_snoc l m x y h']
    constructor
    · rintro (h1 | ⟨h1, h2 | ⟨h2, h3⟩⟩)
      · exact .inl (.inl h1)
      · exact .inl (.inr ⟨h1, h2⟩)
      · exact .inr ⟨by rw [h1, h2], h3⟩
    · rintro ((h1 | ⟨h1, h2⟩) | ⟨h1, h2⟩)
      · exact .inl h1
      · exact .inr ⟨h1, .inl h2⟩
      · obtain ⟨e1, e2⟩ := List.cons.inj h1
        exact .inr ⟨e1, .inr ⟨e2, h2⟩⟩
theorem digsK_lt : ∀ (k n m : Nat), n < 10 ^ k → m < 10 ^ k → (digsK k n < digsK k m ↔ n < m)
  | 0, n, m, hn, hm => by simp at hn hm; subst hn; subst hm; simp [digsK]
  | k + 1, n, m, hn, hm => by
    rw [Nat.pow_succ] at hn hm
    have ih := digsK_lt k (n / 10) (m / 10) (by omega) (by omega)
    rw [digsK, digsK, lt_snoc _ _ _ _ (by rw [digsK_len, digsK_len]), ih, UInt8.lt_iff_toNat_lt, dig_toNat, dig_toNat]
    constructor
    · rintro (h | ⟨h1, h2⟩)
      · omega
      · have := congrArg decV h1
        rw [decV_digsK k _ (by omega), decV_digsK k _ (by omega)] at this
        omega
    · intro h
      by_cases h1 : n / 10 < m / 10
      · exact .inl h1
      · exact .inr ⟨by rw [show n / 10 = m / 10 by omega], by omega⟩
theorem append_lt_iff (p a b : Bt) : p ++ a < p ++ b ↔ a < b := by
  induction p with
  | nil => rfl
  | cons x p ih => rw [List.cons_append, List.cons_append, List.cons_lt_cons_iff, ih]; constructor
                   · rintro (h | ⟨_, h⟩)
                     · exact absurd h (UInt8.lt_irrefl x)
                     · exact h
                   · exact fun h => .inr ⟨rfl, h⟩
theorem name_lt {p : Bt} {n m : Nat} (hn : n ≤ 1000000000000000) (hm : m ≤ 1000000000000000) : nameW p n < nameW p m ↔ n < m := by
  rw [nameW, nameW, append_lt_iff, pad16_eq (by omega), pad16_eq (by omega), digsK_lt 16 n m (by omega) (by omega)]
#print axioms name_lt
#print axioms scan_cut
end Go.Proofs.YtdngjkjoahgelaaGreatDoor

namespace Go.Proofs.YtdngjkjoahgelaaGreatDoor
set_option linter.all false
/-- A file of a log: its number, its records. -/
structure WF where
  first : Nat
  recs : List Bt
abbrev WF.next (f : WF) : Nat := f.first + f.recs.length
abbrev WF.size (f : WF) : Nat := goodB f.recs
def firstW : List WF → Nat
  | [] => 1
  | f :: _ => f.first
def nextW (F : List WF) : Nat := match F.getLast? with
  | none => 1
  | some f => f.next
theorem nextW_snoc (F : List WF) (f : WF) : nextW (F ++ [f]) = f.next := by simp [nextW]
def tmpW (p : Bt) : Bt := p ++ [116, 109, 112]
/-- 'anew'. -/
def anewW (room : Nat) (D : Fls) (p : Bt) (n : Nat) (bytes : Bt) : Int × Fls :=
  let D1 := (removeD D (tmpW p)).2
  let x := appendD room D1 (tmpW p) bytes
  if x.1 = 0 then renameD (syncD x.2 (tmpW p)).2 (tmpW p) (nameW p n) else (x.1, D1)
def delAllW (p : Bt) (ns : List Nat) (D : Fls) : Fls := ns.foldl (fun D n => (removeD D (nameW p n)).2) D
def numsW (D : Fls) (p : Bt) : List Nat := ((listD D p).map fun s => numberB (s.drop p.length)).filter fun n => decide (0 < n)
def goW (room : Nat) (p : Bt) : Option Nat → List Nat → Fls → Int × Fls × List WF
  | _, [], D => (0, D, [])
  | nx, n :: ns, D =>
    if nx ≠ none ∧ nx ≠ some n then (0, delAllW p (n :: ns) D, [])
    else
      let s := bytesOf (nameW p n) D
      if goodB (scanB s) < s.length then
        let x := anewW room D p n (s.take (goodB (scanB s)))
        if x.1 = 0 then (0, delAllW p ns x.2, [⟨n, scanB s⟩]) else (x.1, x.2, [])
      else
        let y := goW room p (some (n + (scanB s).length)) ns D
        (y.1, y.2.1, ⟨n, scanB s⟩ :: y.2.2)
def openW (room : Nat) (D : Fls) (p : Bt) : Int × Fls × List WF := goW room p none (numsW (removeD D (tmpW p)).2 p) (removeD D (tmpW p)).2
def getW (F : List WF) (n : Nat) : Option Bt := match F with
  | [] => none
  | f :: F => if f.first ≤ n ∧ n < f.next then f.recs[n - f.first]? else getW F n
def syncW (D : Fls) (p : Bt) (F : List WF) : Fls := match F.getLast? with
  | none => D
  | some f => (syncD D (nameW p f.first)).2
def freshW (most : Nat) (F : List WF) : Bool := match F.getLast? with
  | none => true
  | some f => decide (most ≤ f.size)
def appendW (room most : Nat) (p : Bt) (D : Fls) (F : List WF) (r : Bt) : Int × Fls × List WF :=
  if 1048576 < r.length then (3, D, F)
  else if freshW most F = true then
    if 1000000000000000 < nextW F then (7, D, F)
    else
      let D1 := syncW D p F
      let x := appendD room D1 (nameW p (nextW F)) (frameB r)
      if x.1 = 0 then (0, x.2, F ++ [⟨nextW F, [r]⟩]) else (x.1, D1, F)
  else match F.getLast? with
    | none => (0, D, F)
    | some f =>
      let x := appendD room D (nameW p f.first) (frameB r)
      if x.1 = 0 then (0, x.2, F.dropLast ++ [⟨f.first, f.recs ++ [r]⟩]) else (x.1, D, F)
def dropW (p : Bt) (to : Nat) : List WF → Fls → Fls × List WF
  | f :: g :: F, D => if g.first ≤ to then dropW p to (g :: F) (removeD D (nameW p f.first)).2 else (D, f :: g :: F)
  | F, D => (D, F)
/-- Behind 'Cut's loop: files that begin beyond are gone (the list is from the end). -/
def cutBack (p : Bt) (from_ : Nat) : List WF → Fls → Fls × List WF
  | f :: F, D => if from_ < f.first then cutBack p from_ F (removeD D (nameW p f.first)).2 else (D, f :: F)
  | [], D => (D, [])
def cutW (room : Nat) (p : Bt) (D : Fls) (F : List WF) (from_ : Nat) : Int × Fls × List WF :=
  if from_ < firstW F then (2, D, F)
  else if nextW F ≤ from_ then (0, D, F)
  else
    match cutBack p from_ F.reverse D with
    | (D1, f :: R) =>
      let x := anewW room D1 p f.first (framesB (f.recs.take (from_ - f.first)))
      if x.1 = 0 then (0, x.2, R.reverse ++ [⟨f.first, f.recs.take (from_ - f.first)⟩]) else (x.1, x.2, R.reverse ++ [f])
    | (D1, []) => (0, D1, [])
end Go.Proofs.YtdngjkjoahgelaaGreatDoor

namespace Go.Proofs.YtdngjkjoahgelaaGreatDoor
set_option linter.all false
section
variable {room : Nat} {D : Fls} {n m : Bt}
theorem getF_name {f : Fl} (h : getF n D = some f) : f.name = n := by simpa using List.find?_some h
theorem getF_mem {f : Fl} (h : getF n D = some f) : f ∈ D := List.mem_of_find?_eq_some h
theorem getF_put (h : SrtBy Fl.name D) (f : Fl) : getF n (putF f D) = if f.name = n then some f else getF n D := getBy_put h f n
theorem getF_del (h : SrtBy Fl.name D) : getF n (delF m D) = if m = n then none else getF n D := getBy_del h m n
theorem getF_remove (h : DOk room D) : getF n (removeD D m).2 = if m = n then none else getF n D := by
  unfold removeD
  split
  · rename_i hm; split
    · rename_i e; rw [← e, hm]
    · rfl
  · exact getF_del h.srt
theorem append_ok {d : Bt} (hn : okName n = true) (hr : usedD D + d.length ≤ room) : appendD room D n d = (0, putF ⟨n, bytesOf n D ++ d, syncedOf n D⟩ D) := by
  unfold appendD; rw [if_neg (by simp [hn]), if_neg (by omega)]
theorem append_full {d : Bt} (hn : okName n = true) (hr : room < usedD D + d.length) : appendD room D n d = (7, D) := by
  unfold appendD; rw [if_neg (by simp [hn]), if_pos hr]
theorem used_append (h : DOk room D) {d : Bt} (hn : okName n = true) (hr : usedD D + d.length ≤ room) : usedD (appendD room D n d).2 = usedD D + d.length := by
  rw [append_ok hn hr]
  cases hg : getF n D with
  | none => show usedD (putF ⟨n, bytesOf n D ++ d, syncedOf n D⟩ D) = _; rw [used_put_new h.srt hg]; simp [bytesOf, hg]
  | some x =>
    have := used_put_le (g := ⟨n, bytesOf n D ++ d, syncedOf n D⟩) (room := room) h.srt hg
    simp [bytesOf, hg] at this ⊢; omega
theorem getF_sync (h : DOk room D) : getF n (syncD D m).2 = if m = n then (getF n D).map (fun f => ⟨f.name, f.bytes, f.bytes.length⟩) else getF n D := by
  unfold syncD
  split
  · rename_i hm; split
    · rename_i e; rw [← e, hm]; rfl
    · rfl
  · rename_i f hm
    rw [getF_put h.srt]
    split
    · rename_i e
      have e : m = n := e
      rw [← e, hm, Option.map_some, getF_name hm]
    · rfl
theorem used_sync (h : DOk room D) : usedD (syncD D m).2 = usedD D := by
  unfold syncD
  split
  · rfl
  · rename_i f hm
    have := used_put_le (g := ⟨m, f.bytes, f.bytes.length⟩) (room := room) h.srt hm
    simp at this ⊢; omega
theorem used_remove (h : DOk room D) : usedD (removeD D m).2 + (bytesOf m D).length = usedD D := by
  unfold removeD
  split
  · rename_i hm; simp [bytesOf, hm]
  · rename_i f hm; have := used_del h.srt hm; simp [bytesOf, hm]; omega
theorem used_remove_le (h : DOk room D) : usedD (removeD D m).2 ≤ usedD D := by have := used_remove (m := m) h; omega
theorem getF_rename (h : DOk room D) {f : Fl} {t x : Bt} (hf : getF t D = some f) (hx : okName x = true) (hne : t ≠ x) :
    (renameD D t x).1 = 0 ∧ getF n (renameD D t x).2 = if x = n then some ⟨x, f.bytes, f.synced⟩ else if t = n then none else getF n D := by
  unfold renameD
  rw [hf]
  simp only [hx, Bool.true_eq_false, if_false, if_neg hne]
  refine ⟨trivial, ?_⟩
  rw [getF_put (h.del t).srt]
  split
  · rfl
  · rw [getF_del h.srt]
theorem used_rename (h : DOk room D) {f : Fl} {t x : Bt} (hf : getF t D = some f) (hx : okName x = true) (hne : t ≠ x) :
    usedD (renameD D t x).2 + (bytesOf x D).length = usedD D := by
  unfold renameD
  rw [hf]
  simp only [hx, Bool.true_eq_false, if_false, if_neg hne]
  have hd := h.del t
  have hu := used_del h.srt hf
  have hg : getF x (delF t D) = getF x D := by rw [getF_del h.srt, if_neg hne]
  cases hm : getF x D with
  | none => rw [hm] at hg; rw [used_put_new hd.srt hg]; show usedD (delF t D) + f.bytes.length + _ = _; simp [bytesOf, hm]; omega
  | some y =>
    rw [hm] at hg
    have := used_put_le (g := ⟨x, f.bytes, f.synced⟩) (room := room) hd.srt hg
    have h3 : (Fl.mk x f.bytes f.synced).bytes.length = f.bytes.length := rfl
    have h4 : (bytesOf x D).length = y.bytes.length := by simp [bytesOf, hm]
    rw [h4]; rw [h3] at this; omega
theorem getF_crash (keep : List Int) (h : DOk room D) : ∃ k, getF n (crashD keep 0 D) = (getF n D).map (crashF k) := by
  have hc := h.crash keep
  cases hg : getF n D with
  | none =>
    refine ⟨none, ?_⟩
    refine getBy_none' fun a ha => ?_
    have : a.name ∈ D.map (·.name) := by rw [← crashD_names keep 0]; exact List.mem_map.2 ⟨a, ha, rfl⟩
    obtain ⟨b, hb, e⟩ := List.mem_map.1 this
    rw [← e]; exact getBy_none hg b hb
  | some f =>
    obtain ⟨i, hi⟩ := List.mem_iff_getElem?.1 (getF_mem hg)
    have h1 := crashD_get keep 0 D i
    rw [hi] at h1
    refine ⟨keep[0 + i]?, ?_⟩
    obtain ⟨l1, l2, e⟩ := List.append_of_mem (List.mem_of_getElem? h1)
    have hs := hc.srt
    rw [e] at hs ⊢
    have h2 := getBy_mid hs
    have h3 : (crashF keep[0 + i]? f).name = n := (show f.name = n from getF_name hg)
    rw [h3] at h2
    exact h2
theorem crash_full {f : Fl} {k : Option Int} (h : f.synced = f.bytes.length) : crashF k f = f := by
  have := leftOf_le k (f.bytes.length - f.synced)
  have h0 : leftOf k (f.bytes.length - f.synced) = 0 := by omega
  obtain ⟨a, b, c⟩ := f
  simp only at h
  subst h
  simp only [crashF, Fl.mk.injEq, true_and] at h0 ⊢
  rw [h0]; simp
theorem list_mem {p s : Bt} : s ∈ listD D p ↔ (getF s D).isSome = true ∧ p.isPrefixOf s = true := by
  unfold listD
  rw [List.mem_filter]
  constructor
  · rintro ⟨h1, h2⟩
    obtain ⟨f, hf, rfl⟩ := List.mem_map.1 h1
    refine ⟨?_, h2⟩
    cases hg : getF f.name D with
    | none => exact absurd rfl (getBy_none hg f hf)
    | some _ => rfl
  · rintro ⟨h1, h2⟩
    obtain ⟨f, hf⟩ := Option.isSome_iff_exists.1 h1
    exact ⟨List.mem_map.2 ⟨f, getF_mem hf, getF_name hf⟩, h2⟩
theorem list_sorted (h : DOk room D) (p : Bt) : (listD D p).Pairwise (· < ·) := List.Pairwise.sublist List.filter_sublist (List.pairwise_map.2 h.srt)
end
/-! ### The log's files by number -/
def inR (n : Nat) : Prop := 1 ≤ n ∧ n ≤ 1000000000000000
section
variable {room : Nat} {D : Fls} {p : Bt}
theorem name_len {n : Nat} (h : inR n) : (nameW p n).length = p.length + 16 := by rw [nameW, List.length_append, pad16_len (by have := h.2; omega)]
theorem name_ok {n : Nat} (h : inR n) (hp : p.length ≤ 48) : okName (nameW p n) = true := by
  have := name_len (p := p) h
  have h0 : nameW p n ≠ [] := fun e => by rw [e] at this; simp at this
  simp [okName, h0, this]; omega
theorem tmp_ok (hp : p.length ≤ 48) : okName (tmpW p) = true := by simp [okName, tmpW]; omega
theorem tmp_ne {n : Nat} (h : inR n) : tmpW p ≠ nameW p n := fun e => by
  have := congrArg List.length e
  rw [name_len h] at this; simp [tmpW] at this
theorem pref_iff (p s : Bt) : p.isPrefixOf s = true ↔ ∃ t, s = p ++ t := by rw [List.isPrefixOf_iff_prefix]; constructor <;> (rintro ⟨t, e⟩; exact ⟨t, e.symm⟩)
theorem nums_mem (n : Nat) : n ∈ numsW D p ↔ inR n ∧ (getF (nameW p n) D).isSome = true := by
  unfold numsW
  rw [List.mem_filter, List.mem_map]
  constructor
  · rintro ⟨⟨s, hs, rfl⟩, hpos⟩
    obtain ⟨h1, h2⟩ := list_mem.1 hs
    obtain ⟨t, rfl⟩ := (pref_iff p s).1 h2
    simp only [List.drop_left, decide_eq_true_eq] at hpos ⊢
    obtain ⟨g1, g2⟩ := pad_number hpos
    rw [nameW, g1]
    exact ⟨⟨hpos, g2⟩, h1⟩
  · rintro ⟨h1, h2⟩
    refine ⟨⟨nameW p n, list_mem.2 ⟨h2, (pref_iff _ _).2 ⟨_, rfl⟩⟩, ?_⟩, by have := h1.1; simp; omega⟩
    rw [nameW, List.drop_left, number_pad h1.2]
theorem nums_sorted (h : DOk room D) : (numsW D p).Pairwise (· < ·) := by
  unfold numsW
  have h1 := list_sorted h p
  have hm : ∀ s ∈ listD D p, ∃ t, s = p ++ t := fun s hs => (pref_iff p s).1 (list_mem.1 hs).2
  generalize listD D p = l at h1 hm
  induction l with
  | nil => exact List.Pairwise.nil
  | cons s l ih =>
    obtain ⟨g1, g2⟩ := List.pairwise_cons.1 h1
    have ih := ih g2 fun x hx => hm x (by simp [hx])
    obtain ⟨t, rfl⟩ := hm s (by simp)
    rw [List.map_cons, List.filter_cons]
    split
    · rename_i hpos
      refine List.pairwise_cons.2 ⟨fun b hb => ?_, ih⟩
      obtain ⟨hb1, hb2⟩ := List.mem_filter.1 hb
      obtain ⟨s', hs', rfl⟩ := List.mem_map.1 hb1
      obtain ⟨t', rfl⟩ := hm s' (by simp [hs'])
      simp only [List.drop_left, decide_eq_true_eq] at hpos hb2 ⊢
      obtain ⟨e1, e2⟩ := pad_number hpos
      obtain ⟨e3, e4⟩ := pad_number hb2
      have := g1 _ hs'
      rw [← e1, ← e3] at this
      exact (name_lt e2 e4).1 this
    · exact ih
/-- Two ascending lists that hold the same. -/
theorem asc_ext : ∀ {l l' : List Nat}, l.Pairwise (· < ·) → l'.Pairwise (· < ·) → (∀ a, a ∈ l ↔ a ∈ l') → l = l'
  | [], [], _, _, _ => rfl
  | [], b :: l', _, _, h => absurd ((h b).2 (by simp)) (by simp)
  | a :: l, [], _, _, h => absurd ((h a).1 (by simp)) (by simp)
  | a :: l, b :: l', h1, h2, h => by
    obtain ⟨g1, g2⟩ := List.pairwise_cons.1 h1
    obtain ⟨g3, g4⟩ := List.pairwise_cons.1 h2
    have hab : a = b := by
      rcases List.mem_cons.1 ((h a).1 (by simp)) with e | e
      · exact e
      · rcases List.mem_cons.1 ((h b).2 (by simp)) with e' | e'
        · exact e'.symm
        · have := g1 b e'; have := g3 a e; omega
    subst hab
    congr 1
    refine asc_ext g2 g4 fun x => ⟨fun hx => ?_, fun hx => ?_⟩
    · rcases List.mem_cons.1 ((h x).1 (by simp [hx])) with e | e
      · subst e; have := g1 x hx; omega
      · exact e
    · rcases List.mem_cons.1 ((h x).2 (by simp [hx])) with e | e
      · subst e; have := g3 x hx; omega
      · exact e
theorem nums_eq (h : DOk room D) {l : List Nat} (hl : l.Pairwise (· < ·)) (he : ∀ n, n ∈ l ↔ inR n ∧ (getF (nameW p n) D).isSome = true) : numsW D p = l :=
  asc_ext (nums_sorted h) hl fun n => by rw [nums_mem, he]
/-- 'anew' where there is room. -/
theorem anew_ok (h : DOk room D) (hp : p.length ≤ 48) {n : Nat} (hn : inR n) (b : Bt) (hr : usedD D + b.length ≤ room) :
    (anewW room D p n b).1 = 0 ∧ DOk room (anewW room D p n b).2 ∧ usedD (anewW room D p n b).2 ≤ usedD D + b.length ∧
    ∀ x, getF x (anewW room D p n b).2 = if nameW p n = x then some ⟨nameW p n, b, b.length⟩ else if tmpW p = x then none else getF x D := by
  have h1 := h.remove (tmpW p)
  have hu1 := used_remove_le (m := tmpW p) h
  have hg1 : getF (tmpW p) (removeD D (tmpW p)).2 = none := by rw [getF_remove h, if_pos rfl]
  have ha := append_ok (d := b) (room := room) (tmp_ok hp) (D := (removeD D (tmpW p)).2) (by omega)
  have hu2 := used_append (d := b) h1 (tmp_ok hp) (by omega)
  have h2 := h1.append (tmpW p) b
  have e1 : bytesOf (tmpW p) (removeD D (tmpW p)).2 = [] := by simp [bytesOf, hg1]
  have hg2 : ∀ x, getF x (appendD room (removeD D (tmpW p)).2 (tmpW p) b).2 = if tmpW p = x then some ⟨tmpW p, b, syncedOf (tmpW p) (removeD D (tmpW p)).2⟩ else getF x D := fun x => by
    rw [ha]
    show getF x (putF _ _) = _
    rw [getF_put h1.srt, e1, getF_remove h]
    split
    · rfl
    · rfl
  have h3 := h2.sync' (tmpW p)
  have hu3 := used_sync (m := tmpW p) h2
  have hg3 : ∀ x, getF x (syncD (appendD room (removeD D (tmpW p)).2 (tmpW p) b).2 (tmpW p)).2 = if tmpW p = x then some ⟨tmpW p, b, b.length⟩ else getF x D := fun x => by
    rw [getF_sync h2, hg2]
    split <;> rfl
  have hne : tmpW p ≠ nameW p n := tmp_ne hn
  have hg4 := fun x => getF_rename (n := x) h3 (t := tmpW p) (x := nameW p n) (by rw [hg3, if_pos rfl]) (name_ok hn hp) hne
  have h4 := h3.rename (tmpW p) (nameW p n)
  have hu4 := used_rename (t := tmpW p) (x := nameW p n) h3 (by rw [hg3, if_pos rfl]) (name_ok hn hp) hne
  have e : anewW room D p n b = renameD (syncD (appendD room (removeD D (tmpW p)).2 (tmpW p) b).2 (tmpW p)).2 (tmpW p) (nameW p n) := by
    unfold anewW
    simp only [ha, if_true]
  rw [e]
  refine ⟨(hg4 []).1, h4, by omega, fun x => ?_⟩
  rw [(hg4 x).2, hg3]
  split
  · rfl
  · split <;> simp_all
end
#print axioms anew_ok
end Go.Proofs.YtdngjkjoahgelaaGreatDoor

namespace Go.Proofs.YtdngjkjoahgelaaGreatDoor
set_option linter.all false
def recsW (F : List WF) : List Bt := F.flatMap (·.recs)
def chainW : Option Nat → List WF → Prop
  | _, [] => True
  | nx, f :: F => (nx = none ∨ nx = some f.first) ∧ chainW (some f.next) F
def lastNx (nx : Option Nat) (G : List WF) : Option Nat := match G.getLast? with
  | none => nx
  | some g => some g.next
theorem lastNx_cons (nx : Option Nat) (f : WF) (G : List WF) : lastNx nx (f :: G) = lastNx (some f.next) G := by
  cases G with
  | nil => rfl
  | cons g G =>
    unfold lastNx
    rw [List.getLast?_cons_cons]
    cases h : (g :: G).getLast? with
    | none => simp at h
    | some x => rfl
theorem chain_app : ∀ {nx : Option Nat} {G H : List WF}, chainW nx (G ++ H) ↔ chainW nx G ∧ chainW (lastNx nx G) H
  | nx, [], H => by simp [chainW, lastNx]
  | nx, f :: G, H => by
    rw [List.cons_append, chainW, chainW, chain_app (nx := some f.next), lastNx_cons, and_assoc]
theorem snoc_cases {α : Type} (l : List α) : l = [] ∨ ∃ l' a, l = l' ++ [a] := by
  rcases List.eq_nil_or_concat l with h | ⟨l', a, h⟩
  · exact .inl h
  · exact .inr ⟨l', a, by simpa using h⟩
theorem recs_snoc (G : List WF) (f : WF) : recsW (G ++ [f]) = recsW G ++ f.recs := by simp [recsW]
theorem first_app {G : List WF} {H : List WF} (h : G ≠ []) : firstW (G ++ H) = firstW G := by cases G with | nil => exact absurd rfl h | cons _ _ => rfl
theorem next_chain : ∀ {F : List WF} {nx : Option Nat}, chainW nx F → F ≠ [] → nextW F = firstW F + (recsW F).length
  | [], _, _, h => absurd rfl h
  | [f], _, _, _ => by simp [nextW, firstW, recsW]
  | f :: g :: F, nx, h, _ => by
    obtain ⟨_, h2⟩ := h
    have ih := next_chain h2 (by simp)
    have h3 := h2.1.resolve_left (by simp)
    have h3 := Option.some.inj h3
    have e1 : nextW (f :: g :: F) = nextW (g :: F) := by simp [nextW, List.getLast?_cons_cons]
    rw [e1, ih]
    show g.first + _ = f.first + (f.recs ++ recsW (g :: F)).length
    rw [← h3, List.length_append]
    show f.first + f.recs.length + _ = _
    omega
theorem next_all {F : List WF} (h : chainW none F) : nextW F = firstW F + (recsW F).length := by
  by_cases h0 : F = []
  · subst h0; rfl
  · exact next_chain h h0
theorem get_chain : ∀ {F : List WF} {nx : Option Nat}, chainW nx F → ∀ n, getW F n = if firstW F ≤ n ∧ n < firstW F + (recsW F).length then (recsW F)[n - firstW F]? else none
  | [], _, _, n => by simp [getW, recsW]
  | f :: F, nx, h, n => by
    obtain ⟨_, h2⟩ := h
    have ih := get_chain h2 n
    have e : recsW (f :: F) = f.recs ++ recsW F := by simp [recsW]
    have e1 : firstW (f :: F) = f.first := rfl
    rw [getW, e, e1, List.length_append]
    by_cases hc : f.first ≤ n ∧ n < f.next
    · have hc2 := hc.2
      simp only [WF.next] at hc2
      rw [if_pos hc, if_pos ⟨hc.1, by omega⟩, List.getElem?_append_left (by omega)]
    · rw [if_neg hc, ih]
      have hF : F ≠ [] → firstW F = f.first + f.recs.length := fun hn => by
        cases F with
        | nil => exact absurd rfl hn
        | cons g F => exact (Option.some.inj (h2.1.resolve_left (by simp))).symm
      by_cases hn : F = []
      · subst hn
        have hz : recsW ([] : List WF) = [] := rfl
        simp only [hz, List.length_nil, Nat.add_zero, List.append_nil]
        simp only [WF.next] at hc
        rw [if_neg (by omega), if_neg hc]
      · have hF := hF hn
        rw [hF]
        simp only [WF.next] at hc
        by_cases h3 : f.first + f.recs.length ≤ n ∧ n < f.first + f.recs.length + (recsW F).length
        · rw [if_pos h3, if_pos (by omega), List.getElem?_append_right (by omega)]
          congr 1; omega
        · rw [if_neg h3, if_neg (by omega)]
/-- A log stands on its disk. -/
structure Log (room : Nat) (p : Bt) (D : Fls) (F : List WF) : Prop where
  ok : DOk room D
  pre : p.length ≤ 48
  rng : ∀ f ∈ F, inR f.first
  chain : chainW none F
  asc : (F.map (·.first)).Pairwise (· < ·)
  recs : ∀ f ∈ F, ∀ b ∈ f.recs, b.length ≤ 1048576
  has : ∀ f ∈ F, ∃ s, getF (nameW p f.first) D = some ⟨nameW p f.first, framesB f.recs, s⟩
  only : ∀ n, inR n → (getF (nameW p n) D).isSome = true → n ∈ F.map (·.first)
  tmp : getF (tmpW p) D = none
def SyncTo (p : Bt) (D : Fls) (F : List WF) : Prop := ∀ f ∈ F, syncedOf (nameW p f.first) D = f.size
/-- All files but the last are synced, and of the last the records up to number k. -/
structure Kept (p : Bt) (D : Fls) (F : List WF) (k : Nat) : Prop where
  old : ∀ G f, F = G ++ [f] → SyncTo p D G
  last : ∀ G f, F = G ++ [f] → goodB (f.recs.take (k + 1 - f.first)) ≤ syncedOf (nameW p f.first) D
section
variable {room most : Nat} {p : Bt} {D D' : Fls} {F G : List WF}
theorem Log.bytes (h : Log room p D F) {f : WF} (hf : f ∈ F) : bytesOf (nameW p f.first) D = framesB f.recs := by obtain ⟨s, hs⟩ := h.has f hf; simp [bytesOf, hs]
theorem scan_all {rs : List Bt} (h : ∀ b ∈ rs, b.length ≤ 1048576) : scanB (framesB rs) = rs := by
  have := scan_frames rs [] h
  rw [List.append_nil] at this
  rw [this, scan_none (openB_short (by simp)), List.append_nil]
theorem go_app : ∀ {G : List WF} {nx : Option Nat} {ns : List Nat}, chainW nx G → (∀ g ∈ G, bytesOf (nameW p g.first) D = framesB g.recs ∧ ∀ b ∈ g.recs, b.length ≤ 1048576) →
    goW room p nx (G.map (·.first) ++ ns) D = ((goW room p (lastNx nx G) ns D).1, (goW room p (lastNx nx G) ns D).2.1, G ++ (goW room p (lastNx nx G) ns D).2.2)
  | [], nx, ns, _, _ => rfl
  | f :: G, nx, ns, hc, hb => by
    obtain ⟨h1, h2⟩ := hc
    obtain ⟨g1, g2⟩ := hb f (by simp)
    have hs := scan_all g2
    have hno : ¬ (nx ≠ none ∧ nx ≠ some f.first) := fun ⟨a, b⟩ => h1.elim a b
    have hlt : ¬ (goodB f.recs < (framesB f.recs).length) := by rw [frames_len]; omega
    rw [List.map_cons, List.cons_append, goW, if_neg hno]
    simp only [g1, hs, if_neg hlt]
    rw [go_app (nx := some f.next) h2 fun g hg => hb g (by simp [hg]), lastNx_cons]
    rfl
theorem Log.nums (h : Log room p D F) : numsW D p = F.map (·.first) := nums_eq h.ok h.asc fun n => ⟨fun hn => by
    obtain ⟨f, hf, rfl⟩ := List.mem_map.1 hn
    obtain ⟨s, hs⟩ := h.has f hf
    exact ⟨h.rng f hf, by rw [hs]; rfl⟩, fun hn => h.only n hn.1 hn.2⟩
theorem remove_none {n : Bt} (h : getF n D = none) : (removeD D n).2 = D := by unfold removeD; rw [h]
theorem Log.open' (h : Log room p D F) : openW room D p = (0, D, F) := by
  unfold openW
  rw [remove_none h.tmp, h.nums]
  have := go_app (room := room) (p := p) (D := D) (ns := []) h.chain fun g hg => ⟨h.bytes hg, h.recs g hg⟩
  rw [List.append_nil] at this
  rw [this]
  simp [goW]
theorem Log.empty {room : Nat} (p : Bt) (hp : p.length ≤ 48) (h : DOk room D) (h1 : ∀ n, getF (nameW p n) D = none) (h2 : getF (tmpW p) D = none) : Log room p D [] :=
  ⟨h, hp, (fun f hf => by cases hf), trivial, List.Pairwise.nil, (fun f hf => by cases hf), (fun f hf => by cases hf), fun n _ hn => (by rw [h1] at hn; cases hn), h2⟩
theorem Log.next_pos (h : Log room p D F) : 1 ≤ nextW F := by
  rw [next_all h.chain]
  cases F with
  | nil => simp [firstW]
  | cons f F => have := (h.rng f (by simp)).1; simp only [firstW]; omega
/-- A log whose disk says the same of the log's names. -/
theorem Log.move (h : Log room p D F) (hd : DOk room D') (hx : ∀ n, inR n → (getF (nameW p n) D').map (·.bytes) = (getF (nameW p n) D).map (·.bytes)) (ht : getF (tmpW p) D' = none) : Log room p D' F := by
  refine ⟨hd, h.pre, h.rng, h.chain, h.asc, h.recs, fun f hf => ?_, fun n hn hs => h.only n hn ?_, ht⟩
  · obtain ⟨s, hs⟩ := h.has f hf
    have h1 := hx f.first (h.rng f hf)
    rw [hs] at h1
    cases hg : getF (nameW p f.first) D' with
    | none => rw [hg] at h1; cases h1
    | some x =>
      rw [hg] at h1
      have h2 := getF_name hg
      have h3 := Option.some.inj h1
      obtain ⟨a, b, c⟩ := x
      simp only at h2 h3
      exact ⟨c, by rw [h2, h3]⟩
  · have h1 := congrArg Option.isSome (hx n hn)
    simpa [hs] using h1.symm
theorem syncedOf_some {n : Bt} {f : Fl} (h : getF n D = some f) : syncedOf n D = f.synced := by simp [syncedOf, h]
/-- 'Sync'. -/
theorem Log.sync (h : Log room p D F) : Log room p (syncW D p F) F ∧ (∀ k, (∀ G f, F = G ++ [f] → SyncTo p D G) → Kept p (syncW D p F) F k) ∧ usedD (syncW D p F) = usedD D ∧
    ((∀ G f, F = G ++ [f] → SyncTo p D G) → SyncTo p (syncW D p F) F) := by
  rcases snoc_cases F with rfl | ⟨G, f, rfl⟩
  · refine ⟨h, fun k _ => ⟨fun G f e => ?_, fun G f e => ?_⟩, rfl, fun _ f hf => by cases hf⟩
    · simp at e
    · simp at e
  · have e : syncW D p (G ++ [f]) = (syncD D (nameW p f.first)).2 := by simp [syncW]
    rw [e]
    have hmem : f ∈ G ++ [f] := by simp
    obtain ⟨s, hs⟩ := h.has f hmem
    have hf := h.rng f hmem
    have hall : (∀ G' f', G ++ [f] = G' ++ [f'] → SyncTo p D G') → SyncTo p (syncD D (nameW p f.first)).2 (G ++ [f]) := fun hold g hg => by
      rcases List.mem_append.1 hg with hg' | hg'
      · have hne : f.first ≠ g.first := fun e' => by
          have hp := h.asc
          rw [List.map_append] at hp
          have := (List.pairwise_append.1 hp).2.2 g.first (List.mem_map.2 ⟨g, hg', rfl⟩) f.first (by simp)
          omega
        have hne' : nameW p f.first ≠ nameW p g.first := fun e' => hne (name_inj hf.2 (h.rng g hg).2 e')
        have := hold G f rfl g hg'
        unfold syncedOf at this ⊢
        rw [getF_sync h.ok, if_neg hne']
        exact this
      · obtain rfl : g = f := by simpa using hg'
        unfold syncedOf
        rw [getF_sync h.ok, if_pos rfl, hs]
        simp [frames_len]
    refine ⟨?_, fun k hold => ⟨fun G' f' e' => ?_, fun G' f' e' => ?_⟩, used_sync h.ok, hall⟩
    · refine h.move (h.ok.sync' _) (fun n _ => ?_) ?_
      · rw [getF_sync h.ok]
        split
        · rw [Option.map_map]; rfl
        · rfl
      · rw [getF_sync h.ok, if_neg (Ne.symm (tmp_ne hf)), h.tmp]
    · obtain ⟨rfl, _⟩ := List.append_inj' e' rfl
      intro g hg
      exact hall hold g (by simp [hg])
    · obtain ⟨rfl, hff⟩ := List.append_inj' e' rfl
      obtain rfl : f = f' := by simpa using hff
      have := hall hold f (by simp)
      rw [this]
      show goodB _ ≤ goodB _
      conv => rhs; rw [← List.take_append_drop (k + 1 - f.first) f.recs]
      rw [good_app]; omega
end
#print axioms Log.sync
end Go.Proofs.YtdngjkjoahgelaaGreatDoor

namespace Go.Proofs.YtdngjkjoahgelaaGreatDoor
set_option linter.all false
section
variable {room most : Nat} {p : Bt} {D D' : Fls} {F G : List WF}
theorem good_take_le (rs : List Bt) (i : Nat) : goodB (rs.take i) ≤ goodB rs := by
  conv => rhs; rw [← List.take_append_drop i rs]
  rw [good_app]; omega
theorem asc_snoc {l : List Nat} {n : Nat} (h : l.Pairwise (· < ·)) (hn : ∀ x ∈ l, x < n) : (l ++ [n]).Pairwise (· < ·) :=
  List.pairwise_append.2 ⟨h, List.pairwise_singleton _ _, fun a ha b hb => by simp at hb; subst hb; exact hn a ha⟩
theorem asc_last {l : List Nat} {n : Nat} (h : (l ++ [n]).Pairwise (· < ·)) : ∀ x ∈ l, x < n := fun x hx => (List.pairwise_append.1 h).2.2 x hx n (by simp)
theorem frames_snoc (rs : List Bt) (b : Bt) : framesB (rs ++ [b]) = framesB rs ++ frameB b := by rw [frames_app]; simp [framesB]
/-- 'Append' where there is room. -/
theorem Log.append' (h : Log room p D F) (hm : 1 ≤ most) (r : Bt) (hr : r.length ≤ 1048576) (hu : usedD D + (8 + r.length) ≤ room) (hn : freshW most F = true → nextW F ≤ 1000000000000000) :
    ∃ D' F', appendW room most p D F r = (0, D', F') ∧ Log room p D' F' ∧ recsW F' = recsW F ++ [r] ∧ firstW F' = firstW F ∧ usedD D' = usedD D + (8 + r.length) ∧ F'.length ≤ F.length + 1 ∧
      ∀ k, k < nextW F → Kept p D F k → Kept p D' F' k := by
  have hfr : ¬ 1048576 < r.length := by omega
  have hfl := frame_len r
  by_cases hf : freshW most F = true
  · -- a new file
    have hn := hn hf
    obtain ⟨hs1, hs2, hs3, hs4⟩ := h.sync
    have hok := hs1.ok
    have hinr : inR (nextW F) := ⟨h.next_pos, hn⟩
    have hnk := name_ok (p := p) hinr h.pre
    have hap := append_ok (d := frameB r) (room := room) hnk (D := syncW D p F) (by omega)
    have hua := used_append (d := frameB r) hok hnk (by omega)
    have hlt : ∀ x ∈ F.map (·.first), x < nextW F := by
      rcases snoc_cases F with rfl | ⟨G, f, rfl⟩
      · simp
      · intro x hx
        rw [nextW_snoc]
        have hsz : most ≤ f.size := by simpa [freshW] using hf
        have hne : f.recs ≠ [] := fun e => by simp [WF.size, e, goodB] at hsz; omega
        have hpos := List.length_pos_iff.2 hne
        have ha := h.asc
        rw [List.map_append] at ha hx
        rcases List.mem_append.1 hx with hx | hx
        · have : x < f.first := asc_last ha x hx; simp only [WF.next]; omega
        · simp at hx; simp only [WF.next]; omega
    have hgn : getF (nameW p (nextW F)) (syncW D p F) = none := by
      cases hg : getF (nameW p (nextW F)) (syncW D p F) with
      | none => rfl
      | some x => have := hlt _ (hs1.only _ hinr (by rw [hg]; rfl)); omega
    have hb0 : bytesOf (nameW p (nextW F)) (syncW D p F) = [] := by simp [bytesOf, hgn]
    have hs0 : syncedOf (nameW p (nextW F)) (syncW D p F) = 0 := by simp [syncedOf, hgn]
    rw [hb0, hs0, List.nil_append] at hap
    refine ⟨putF ⟨nameW p (nextW F), frameB r, 0⟩ (syncW D p F), F ++ [⟨nextW F, [r]⟩], ?_, ?_, by simp [recsW], ?_, ?_, by simp, ?_⟩
    · unfold appendW
      rw [if_neg hfr, if_pos hf, if_neg (by omega)]
      simp only [hap, if_true]
    · have hgp : ∀ x, getF x (putF ⟨nameW p (nextW F), frameB r, 0⟩ (syncW D p F)) = if nameW p (nextW F) = x then some ⟨nameW p (nextW F), frameB r, 0⟩ else getF x (syncW D p F) := fun x => getF_put hok.srt _
      refine ⟨?_, h.pre, ?_, ?_, ?_, ?_, ?_, ?_, ?_⟩
      · have := hok.append (nameW p (nextW F)) (frameB r); rw [hap] at this; exact this
      · intro f hf'
        rcases List.mem_append.1 hf' with hf' | hf'
        · exact h.rng f hf'
        · simp at hf'; subst hf'; exact hinr
      · rw [chain_app]
        refine ⟨h.chain, ?_, trivial⟩
        rcases snoc_cases F with rfl | ⟨G, f, rfl⟩
        · exact .inl rfl
        · exact .inr (by simp [lastNx, nextW_snoc])
      · rw [List.map_append]; exact asc_snoc h.asc hlt
      · intro f hf' b hb
        rcases List.mem_append.1 hf' with hf' | hf'
        · exact h.recs f hf' b hb
        · simp at hf'; subst hf'; simp at hb; subst hb; exact hr
      · intro f hf'
        rcases List.mem_append.1 hf' with hf' | hf'
        · have hne : nextW F ≠ f.first := fun e => by have := hlt f.first (List.mem_map.2 ⟨f, hf', rfl⟩); omega
          rw [hgp, if_neg fun e => hne (name_inj hn (h.rng f hf').2 e)]
          exact hs1.has f hf'
        · simp at hf'; subst hf'
          exact ⟨0, by rw [hgp, if_pos rfl]; simp [framesB]⟩
      · intro n hi hx
        rw [hgp] at hx
        rw [List.map_append, List.mem_append]
        split at hx
        · rename_i e; right; rw [name_inj hn hi.2 e]; simp
        · exact .inl (hs1.only n hi hx)
      · rw [hgp, if_neg (Ne.symm (tmp_ne hinr))]; exact hs1.tmp
    · cases F with
      | nil => rfl
      | cons _ _ => rfl
    · rw [hap] at hua; simp only at hua; rw [hua, hs3, hfl]
    · intro k hk hkept
      have hgp : ∀ x, syncedOf x (putF ⟨nameW p (nextW F), frameB r, 0⟩ (syncW D p F)) = if nameW p (nextW F) = x then 0 else syncedOf x (syncW D p F) := fun x => by
        unfold syncedOf; rw [getF_put hok.srt]; split <;> rfl
      have hst := hs4 hkept.old
      refine ⟨fun G f e => ?_, fun G f e => ?_⟩
      · obtain ⟨rfl, _⟩ := List.append_inj' e rfl
        intro g hg
        have hne : nextW F ≠ g.first := fun e => by have := hlt g.first (List.mem_map.2 ⟨g, hg, rfl⟩); omega
        rw [hgp, if_neg fun e => hne (name_inj hn (h.rng g hg).2 e)]
        exact hst g hg
      · obtain ⟨rfl, e2⟩ := List.append_inj' e rfl
        obtain rfl : (⟨nextW F, [r]⟩ : WF) = f := by simpa using e2
        have : k + 1 - nextW F = 0 := by omega
        simp [this, goodB]
  · -- the last file grows
    rcases snoc_cases F with rfl | ⟨G, f, rfl⟩
    · exact absurd rfl hf
    · have hmem : f ∈ G ++ [f] := by simp
      have hinr := h.rng f hmem
      have hnk := name_ok (p := p) hinr h.pre
      obtain ⟨s, hs⟩ := h.has f hmem
      have hap := append_ok (d := frameB r) (room := room) hnk (D := D) (by omega)
      have hua := used_append (d := frameB r) h.ok hnk (by omega)
      have hb0 : bytesOf (nameW p f.first) D = framesB f.recs := by simp [bytesOf, hs]
      have hs0 : syncedOf (nameW p f.first) D = s := by simp [syncedOf, hs]
      rw [hb0, hs0, ← frames_snoc] at hap
      have hlast : (G ++ [f]).getLast? = some f := by simp
      have hgp : ∀ x, getF x (putF ⟨nameW p f.first, framesB (f.recs ++ [r]), s⟩ D) = if nameW p f.first = x then some ⟨nameW p f.first, framesB (f.recs ++ [r]), s⟩ else getF x D := fun x => getF_put h.ok.srt _
      have hgne : ∀ g ∈ G, nameW p f.first ≠ nameW p g.first := fun g hg e => by
        have ha := h.asc
        rw [List.map_append] at ha
        have : g.first < f.first := asc_last ha g.first (List.mem_map.2 ⟨g, hg, rfl⟩)
        have := name_inj hinr.2 (h.rng g (by simp [hg])).2 e
        omega
      refine ⟨putF ⟨nameW p f.first, framesB (f.recs ++ [r]), s⟩ D, G ++ [⟨f.first, f.recs ++ [r]⟩], ?_, ?_, by simp [recsW], ?_, ?_, by simp, ?_⟩
      · unfold appendW
        rw [if_neg hfr, if_neg hf]
        simp only [hlast, hap, if_true, List.dropLast_concat]
      · refine ⟨?_, h.pre, ?_, ?_, ?_, ?_, ?_, ?_, ?_⟩
        · have := h.ok.append (nameW p f.first) (frameB r); rw [hap] at this; exact this
        · intro g hg
          rcases List.mem_append.1 hg with hg | hg
          · exact h.rng g (by simp [hg])
          · simp at hg; subst hg; exact hinr
        · have hc := h.chain
          rw [chain_app] at hc ⊢
          exact ⟨hc.1, hc.2.1, trivial⟩
        · have ha := h.asc
          rw [List.map_append] at ha ⊢
          exact ha
        · intro g hg b hb
          rcases List.mem_append.1 hg with hg | hg
          · exact h.recs g (by simp [hg]) b hb
          · simp at hg; subst hg
            rcases List.mem_append.1 hb with hb | hb
            · exact h.recs f hmem b hb
            · simp at hb; subst hb; exact hr
        · intro g hg
          rcases List.mem_append.1 hg with hg | hg
          · rw [hgp, if_neg (hgne g hg)]
            exact h.has g (by simp [hg])
          · simp at hg; subst hg
            exact ⟨s, by rw [hgp, if_pos rfl]⟩
        · intro n hi hx
          rw [hgp] at hx
          rw [List.map_append, List.mem_append]
          split at hx
          · rename_i e; right; rw [name_inj hinr.2 hi.2 e]; simp
          · have := h.only n hi hx
            rw [List.map_append, List.mem_append] at this
            exact this
        · rw [hgp, if_neg (Ne.symm (tmp_ne hinr))]; exact h.tmp
      · cases G with
        | nil => rfl
        | cons _ _ => rfl
      · rw [hap] at hua; simp only at hua; rw [hua, hfl]
      · intro k hk hkept
        have hgs : ∀ x, syncedOf x (putF ⟨nameW p f.first, framesB (f.recs ++ [r]), s⟩ D) = if nameW p f.first = x then s else syncedOf x D := fun x => by
          unfold syncedOf; rw [hgp]; split <;> rfl
        have hk1 := hkept.last G f rfl
        have hk2 := hkept.old G f rfl
        refine ⟨fun G' f' e => ?_, fun G' f' e => ?_⟩
        · obtain ⟨rfl, _⟩ := List.append_inj' e rfl
          intro g hg
          rw [hgs, if_neg (hgne g hg)]
          exact hk2 g hg
        · obtain ⟨rfl, e2⟩ := List.append_inj' e rfl
          obtain rfl : (⟨f.first, f.recs ++ [r]⟩ : WF) = f' := by simpa using e2
          rw [nextW_snoc] at hk
          simp only [WF.next] at hk
          rw [hgs, if_pos rfl]
          simp only
          rw [List.take_append_of_le_length (by omega)]
          rw [hs0] at hk1
          exact hk1
theorem Log.append (h : Log room p D F) (hm : 1 ≤ most) (r : Bt) (hr : r.length ≤ 1048576) (hu : usedD D + (8 + r.length) ≤ room) (hn : nextW F ≤ 1000000000000000) :
    ∃ D' F', appendW room most p D F r = (0, D', F') ∧ Log room p D' F' ∧ recsW F' = recsW F ++ [r] ∧ firstW F' = firstW F ∧ usedD D' = usedD D + (8 + r.length) ∧ F'.length ≤ F.length + 1 ∧
      ∀ k, k < nextW F → Kept p D F k → Kept p D' F' k := h.append' hm r hr hu fun _ => hn
/-- What Open makes of a log behind a crash. -/
theorem Log.crash (h : Log room p D F) {k : Nat} (hk : Kept p D F k) (keep : List Int) (hu : 2 * usedD D ≤ room) :
    ∃ D2 F2, openW room (crashD keep 0 D) p = (0, D2, F2) ∧ Log room p D2 F2 ∧ SyncTo p D2 F2 ∧ firstW F2 = firstW F ∧ (∃ j, recsW F2 = (recsW F).take j ∧ j ≤ (recsW F).length ∧ min (nextW F) (k + 1) ≤ firstW F + j) ∧ usedD D2 ≤ 2 * usedD D ∧ F2.length ≤ F.length := by
  have hcok := h.ok.crash keep
  have htmp : getF (tmpW p) (crashD keep 0 D) = none := by obtain ⟨x, hx⟩ := getF_crash (n := tmpW p) keep h.ok; rw [hx, h.tmp]; rfl
  have huc := used_crash keep 0 D h.ok.sync
  have hinv : ∀ f : WF, f ∈ F → syncedOf (nameW p f.first) D = f.size → getF (nameW p f.first) (crashD keep 0 D) = getF (nameW p f.first) D := fun f hf hsy => by
    obtain ⟨x, hx⟩ := getF_crash (n := nameW p f.first) keep h.ok
    obtain ⟨s, hs⟩ := h.has f hf
    rw [syncedOf_some hs] at hsy
    simp only at hsy
    rw [hx, hs, Option.map_some, crash_full (by simp only [frames_len]; exact hsy)]
  have honly : ∀ n, inR n → (getF (nameW p n) (crashD keep 0 D)).isSome = true → n ∈ F.map (·.first) := fun n hn hx => by
    obtain ⟨x, e⟩ := getF_crash (n := nameW p n) keep h.ok
    rw [e] at hx
    exact h.only n hn (by simpa using hx)
  rcases snoc_cases F with rfl | ⟨G, f, rfl⟩
  · have hl : Log room p (crashD keep 0 D) [] := ⟨hcok, h.pre, (fun f hf => by cases hf), trivial, List.Pairwise.nil, (fun f hf => by cases hf), (fun f hf => by cases hf), honly, htmp⟩
    exact ⟨_, [], hl.open', hl, (fun f hf => by cases hf), rfl, ⟨0, rfl, Nat.zero_le _, by simp [firstW, nextW]⟩, by omega, by simp⟩
  · have hmem : f ∈ G ++ [f] := by simp
    have hinr := h.rng f hmem
    obtain ⟨s, hs⟩ := h.has f hmem
    obtain ⟨x, hx⟩ := getF_crash (n := nameW p f.first) keep h.ok
    rw [hs, Option.map_some] at hx
    have hle := leftOf_le x ((framesB f.recs).length - s)
    have hss := sync_le h.ok hs
    simp only at hss
    obtain ⟨c, hc⟩ : ∃ c, c = s + leftOf x ((framesB f.recs).length - s) := ⟨_, rfl⟩
    have hcl : c ≤ goodB f.recs := by rw [frames_len] at hle hss hc; omega
    have hsc : s ≤ c := by omega
    have hx : getF (nameW p f.first) (crashD keep 0 D) = some ⟨nameW p f.first, (framesB f.recs).take c, c⟩ := by
      rw [hx]
      show some (⟨nameW p f.first, (framesB f.recs).take (s + leftOf x ((framesB f.recs).length - s)), s + leftOf x ((framesB f.recs).length - s)⟩ : Fl) = _
      rw [← hc]
    have hG : ∀ g ∈ G, bytesOf (nameW p g.first) (crashD keep 0 D) = framesB g.recs ∧ ∀ b ∈ g.recs, b.length ≤ 1048576 := fun g hg => by
      refine ⟨?_, h.recs g (by simp [hg])⟩
      rw [bytesOf, hinv g (by simp [hg]) (hk.old G f rfl g hg)]
      exact h.bytes (by simp [hg])
    have hch := h.chain
    rw [chain_app] at hch
    have hnums : numsW (crashD keep 0 D) p = (G ++ [f]).map (·.first) := nums_eq hcok h.asc fun n => ⟨fun hn => by
      obtain ⟨g, hg, rfl⟩ := List.mem_map.1 hn
      refine ⟨h.rng g hg, ?_⟩
      obtain ⟨x', hx'⟩ := getF_crash (n := nameW p g.first) keep h.ok
      obtain ⟨s', hs'⟩ := h.has g hg
      rw [hx', hs']; rfl, fun hn => honly n hn.1 hn.2⟩
    obtain ⟨j, hj1, hj2, hj3, hj4⟩ := scan_cut f.recs (h.recs f hmem) c hcl
    have hgo := go_app (room := room) (p := p) (D := crashD keep 0 D) (ns := [f.first]) hch.1 hG
    have hop : openW room (crashD keep 0 D) p = goW room p none ((G ++ [f]).map (·.first)) (crashD keep 0 D) := by
      unfold openW; rw [remove_none htmp, hnums]
    have hb : bytesOf (nameW p f.first) (crashD keep 0 D) = (framesB f.recs).take c := by simp [bytesOf, hx]
    have hno : ¬ (lastNx none G ≠ none ∧ lastNx none G ≠ some f.first) := fun ⟨a, b⟩ => hch.2.1.elim a b
    have hlen : ((framesB f.recs).take c).length = c := by rw [List.length_take, frames_len]; omega
    have hkl : min (nextW (G ++ [f])) (k + 1) ≤ firstW (G ++ [f]) + ((recsW G).length + j) := by
      have h1 := hk.last G f rfl
      rw [syncedOf_some hs] at h1
      simp only at h1
      have h2 := hj4 (min (k + 1 - f.first) f.recs.length) (Nat.min_le_right _ _) (by rw [show f.recs.take (min (k + 1 - f.first) f.recs.length) = f.recs.take (k + 1 - f.first) by rw [← List.take_take, List.take_length]]; omega)
      have h3 : firstW (G ++ [f]) + (recsW G).length = f.first := by
        have h4 := next_all h.chain
        rw [nextW_snoc, recs_snoc, List.length_append] at h4
        simp only [WF.next] at h4
        omega
      rw [nextW_snoc]
      simp only [WF.next]
      omega
    have hrec : ∃ j', (recsW G ++ f.recs.take j) = (recsW (G ++ [f])).take j' ∧ j' ≤ (recsW (G ++ [f])).length ∧ min (nextW (G ++ [f])) (k + 1) ≤ firstW (G ++ [f]) + j' := by
      refine ⟨(recsW G).length + j, ?_, by rw [recs_snoc, List.length_append]; omega, hkl⟩
      rw [recs_snoc, List.take_length_add_append]
    have hfirst : firstW (G ++ [(⟨f.first, f.recs.take j⟩ : WF)]) = firstW (G ++ [f]) := by cases G <;> rfl
    have hgne : ∀ g ∈ G, nameW p f.first ≠ nameW p g.first := fun g hg e => by
      have ha := h.asc
      rw [List.map_append] at ha
      have : g.first < f.first := asc_last ha g.first (List.mem_map.2 ⟨g, hg, rfl⟩)
      have := name_inj hinr.2 (h.rng g (by simp [hg])).2 e
      omega
    -- the new log, whatever disk has its files
    have hnew : ∀ D2, DOk room D2 → (∀ y, getF y D2 = if nameW p f.first = y then some ⟨nameW p f.first, framesB (f.recs.take j), goodB (f.recs.take j)⟩ else if tmpW p = y then none else getF y (crashD keep 0 D)) →
        Log room p D2 (G ++ [⟨f.first, f.recs.take j⟩]) ∧ SyncTo p D2 (G ++ [⟨f.first, f.recs.take j⟩]) := fun D2 hd hg2 => by
      have hg3 : ∀ g ∈ G, getF (nameW p g.first) D2 = getF (nameW p g.first) D := fun g hg => by
        rw [hg2, if_neg (hgne g hg), if_neg (tmp_ne (h.rng g (by simp [hg])))]
        exact hinv g (by simp [hg]) (hk.old G f rfl g hg)
      refine ⟨⟨hd, h.pre, ?_, ?_, ?_, ?_, ?_, ?_, ?_⟩, ?_⟩
      · intro g hg
        rcases List.mem_append.1 hg with hg | hg
        · exact h.rng g (by simp [hg])
        · simp at hg; subst hg; exact hinr
      · rw [chain_app]; exact ⟨hch.1, hch.2.1, trivial⟩
      · have ha := h.asc
        rw [List.map_append] at ha ⊢
        exact ha
      · intro g hg b hb
        rcases List.mem_append.1 hg with hg | hg
        · exact h.recs g (by simp [hg]) b hb
        · simp at hg; subst hg; exact h.recs f hmem b (List.mem_of_mem_take hb)
      · intro g hg
        rcases List.mem_append.1 hg with hg | hg
        · rw [hg3 g hg]; exact h.has g (by simp [hg])
        · simp at hg; subst hg; exact ⟨_, by rw [hg2, if_pos rfl]⟩
      · intro n hi hx'
        rw [List.map_append, List.mem_append]
        rw [hg2] at hx'
        split at hx'
        · rename_i e; right; rw [name_inj hinr.2 hi.2 e]; simp
        · split at hx'
          · cases hx'
          · have := honly n hi hx'
            rw [List.map_append, List.mem_append] at this
            exact this
      · rw [hg2, if_neg (Ne.symm (tmp_ne hinr)), if_pos rfl]
      · intro g hg
        rcases List.mem_append.1 hg with hg | hg
        · unfold syncedOf; rw [hg3 g hg]; exact hk.old G f rfl g hg
        · simp at hg; subst hg; simp [syncedOf, hg2]
    rw [hop, List.map_append, List.map_cons, List.map_nil, hgo, goW, if_neg hno]
    simp only [hb, hj2, hlen]
    by_cases hgc : goodB (f.recs.take j) < c
    · have htk : ((framesB f.recs).take c).take (goodB (f.recs.take j)) = framesB (f.recs.take j) := by
        rw [List.take_take, Nat.min_eq_left (by omega)]
        have : framesB f.recs = framesB (f.recs.take j) ++ framesB (f.recs.drop j) := by rw [← frames_app, List.take_append_drop]
        rw [this, List.take_left' (frames_len _)]
      have hfl := frames_len (f.recs.take j)
      have hub : c ≤ usedD (crashD keep 0 D) := by
        obtain ⟨l1, l2, e, _⟩ := getBy_some hx
        rw [e, used_mid]
        have : (Fl.mk (nameW p f.first) ((framesB f.recs).take c) c).bytes.length = c := hlen
        omega
      obtain ⟨a1, a2, a3, a4⟩ := anew_ok hcok h.pre hinr (framesB (f.recs.take j)) (by omega)
      obtain ⟨n1, n2⟩ := hnew _ a2 (by rw [hfl] at a4; exact a4)
      refine ⟨(anewW room (crashD keep 0 D) p f.first (framesB (f.recs.take j))).2, G ++ [⟨f.first, f.recs.take j⟩], ?_, n1, n2, hfirst, ?_, by omega, by simp⟩
      · simp only [if_pos hgc, htk, a1, if_true]
        rfl
      · rw [recs_snoc]; exact hrec
    · have hgc' : goodB (f.recs.take j) = c := by omega
      have htk : (framesB f.recs).take c = framesB (f.recs.take j) := by
        have : framesB f.recs = framesB (f.recs.take j) ++ framesB (f.recs.drop j) := by rw [← frames_app, List.take_append_drop]
        rw [this, ← hgc', List.take_left' (frames_len _)]
      obtain ⟨n1, n2⟩ := hnew _ hcok (fun y => by
        split
        · rename_i e; rw [← e, hx, htk, hgc']
        · split
          · rename_i e; rw [← e]; exact htmp
          · rfl)
      refine ⟨crashD keep 0 D, G ++ [⟨f.first, f.recs.take j⟩], ?_, n1, n2, hfirst, ?_, by omega, by simp⟩
      · simp only [if_neg hgc, goW]
      · rw [recs_snoc]; exact hrec
end
#print axioms Log.crash
end Go.Proofs.YtdngjkjoahgelaaGreatDoor

namespace Go.Proofs.YtdngjkjoahgelaaGreatDoor
set_option linter.all false
theorem put_len (f : Fl) : ∀ D : Fls, (putF f D).length ≤ D.length + 1
  | [] => by simp [putF, putBy]
  | g :: D => by
    have ih := put_len f D
    simp only [putF, putBy] at ih ⊢
    repeat (first | split | (simp only [List.length_cons]; omega))
theorem put_len_same {f g : Fl} {D : Fls} (hs : SrtBy Fl.name D) (hg : getF f.name D = some g) : (putF f D).length = D.length := by
  obtain ⟨l1, l2, e, hn⟩ := getBy_some hg
  subst e
  show (putBy Fl.name f (l1 ++ g :: l2)).length = _
  rw [putBy_mid hs hn.symm]; simp
theorem sync_len {D : Fls} (hs : SrtBy Fl.name D) (n : Bt) : (syncD D n).2.length = D.length := by
  unfold syncD
  split
  · rfl
  · rename_i f hf
    first | exact put_len_same (f := ⟨n, f.bytes, f.bytes.length⟩) hs hf | rfl
theorem syncW_len {D : Fls} (hs : SrtBy Fl.name D) (p : Bt) (F : List WF) : (syncW D p F).length = D.length := by
  unfold syncW
  split
  · rfl
  · exact sync_len hs _
theorem appendD_len (room : Nat) (D : Fls) (n d : Bt) : (appendD room D n d).2.length ≤ D.length + 1 := by
  unfold appendD
  repeat (first | split | exact put_len _ _ | (simp only; omega) | exact Nat.le_succ _)
theorem appendW_len {room most : Nat} {p : Bt} {D : Fls} (hs : SrtBy Fl.name D) (F : List WF) (r : Bt) : (appendW room most p D F r).2.1.length ≤ D.length + 1 := by
  unfold appendW
  have h1 := syncW_len hs p F
  have h2 := appendD_len room (syncW D p F) (nameW p (nextW F)) (frameB r)
  split
  · exact Nat.le_succ _
  · split
    · split
      · exact Nat.le_succ _
      · dsimp only
        split
        · dsimp only; omega
        · dsimp only; omega
    · split
      · exact Nat.le_succ _
      · rename_i f _
        have h3 := appendD_len room D (nameW p f.first) (frameB r)
        dsimp only
        split
        · exact h3
        · exact Nat.le_succ _
theorem crash_len (keep : List Int) (k : Nat) (D : Fls) : (crashD keep k D).length = D.length := by
  have := congrArg List.length (crashD_names keep k D)
  simpa using this
/-- So many records are there, so many of them synced. -/
structure LastS (ks : List Bt) (k i : Nat) (D : Fls) (F : List WF) : Prop where
  log : Log 1048576 [119] D F
  recs : recsW F = ks.take i
  first : firstW F = 1
  used : usedD D ≤ i * 108
  len : F.length ≤ i
  dlen : D.length ≤ i
  kept : Kept [119] D F k
theorem Log.fsize {room : Nat} {p : Bt} {D : Fls} {F : List WF} (h : Log room p D F) {f : WF} (hf : f ∈ F) : f.size ≤ usedD D := by
  obtain ⟨s, hs⟩ := h.has f hf
  have := used_del h.ok.srt hs
  have e : (Fl.mk (nameW p f.first) (framesB f.recs) s).bytes.length = goodB f.recs := frames_len _
  simp only [WF.size]
  omega
namespace LastS
variable {ks : List Bt} {k i : Nat} {D : Fls} {F : List WF}
theorem next (h : LastS ks k i D F) (hi : i ≤ ks.length) : nextW F = 1 + i := by
  rw [next_all h.log.chain, h.first, h.recs, List.length_take]; omega
theorem zero (ks : List Bt) : LastS ks 0 0 [] [] :=
  ⟨Log.empty [119] (by decide) ⟨List.Pairwise.nil, by simp [usedD], by omega, (fun f hf => by cases hf), fun f hf => by cases hf⟩ (fun _ => rfl) rfl, rfl, rfl, by simp [usedD], by simp, by simp,
   ⟨fun G f e => by simp at e, fun G f e => by simp at e⟩⟩
theorem sync (h : LastS ks k i D F) (j : Nat) : LastS ks j i (syncW D [119] F) F := by
  obtain ⟨h1, h2, h3, _⟩ := h.log.sync
  exact ⟨h1, h.recs, h.first, by rw [h3]; exact h.used, h.len, by rw [syncW_len h.log.ok.srt]; exact h.dlen, h2 j h.kept.old⟩
theorem append {most : Nat} (h : LastS ks k i D F) (hm : 1 ≤ most) {r : Bt} (hr : ks[i]? = some r) (hrl : r.length ≤ 100) (hi : i < 30) (hk : k ≤ i) : ∃ D' F', appendW 1048576 most [119] D F r = (0, D', F') ∧ LastS ks k (i + 1) D' F' := by
  have hlt := (List.getElem?_eq_some_iff.1 hr).1
  have hn := h.next (by omega)
  have hu := h.used
  obtain ⟨D', F', e, h1, h2, h3, h4, h5, h6⟩ := h.log.append hm r (by omega) (by omega) (by omega)
  have hdl := appendW_len (room := 1048576) (most := most) (p := [119]) h.log.ok.srt F r
  rw [e] at hdl
  refine ⟨D', F', e, h1, ?_, h3.trans h.first, by omega, by have := h.len; omega, by have := h.dlen; simp only at hdl; omega, h6 k (by omega) h.kept⟩
  rw [h2, h.recs, List.take_add_one, hr]; rfl
theorem hyps (h : LastS ks k i D F) (hi : i ≤ 30) (hil : i ≤ ks.length) : F.length + 1 ≤ 1000000 ∧ (∀ f ∈ F, f.size + 2000000 ≤ 1099511627776) ∧ nextW F ≤ 1000000000000000 := by
  refine ⟨by have := h.len; omega, fun f hf => by have := h.log.fsize hf; have := h.used; omega, by rw [h.next hil]; omega⟩
theorem crash (h : LastS ks k i D F) (hi : i ≤ 30) (hil : i = ks.length) (hk : k ≤ i) (keep : List Int) : ∃ D2 F2 j, openW 1048576 (crashD keep 0 D) [119] = (0, D2, F2) ∧ Log 1048576 [119] D2 F2 ∧ recsW F2 = ks.take j ∧ j ≤ i ∧ k ≤ j ∧ firstW F2 = 1 ∧ usedD D2 ≤ 10000 ∧ F2.length ≤ 30 ∧ nextW F2 = 1 + j := by
  have hu := h.used
  obtain ⟨D2, F2, e, h1, _, h3, ⟨j, h4, h5, h6⟩, h7, h8⟩ := h.log.crash h.kept keep (by omega)
  have hr : (recsW F).length = i := by rw [h.recs, List.length_take]; omega
  have hrt : recsW F = ks := by rw [h.recs, List.take_of_length_le (by omega)]
  rw [h.next (by omega), h.first] at h6
  rw [hr] at h5
  refine ⟨D2, F2, j, e, h1, by rw [h4, hrt], h5, by omega, h3.trans h.first, by omega, by have := h.len; omega, ?_⟩
  rw [next_all h1.chain, h3, h.first, h4, List.length_take]; omega
end LastS
end Go.Proofs.YtdngjkjoahgelaaGreatDoor
