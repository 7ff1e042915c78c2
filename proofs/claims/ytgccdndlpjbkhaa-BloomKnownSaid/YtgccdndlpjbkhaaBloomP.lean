/-
  Bloom: the plain laws of filters: a filter never denies its keys; the keys' order does not matter; of fewer keys there are no more bits.
-/
import Derived.Test.YtgccdndlpjbkhaaBloom9
namespace Go.Proofs.Ytgccdndlpjbkhaa
open Go.RowKit
set_option linter.unusedVariables false
theorem orB_bit_all : ∀ u : Fin 256, ∀ r : Fin 8, ∀ j : Fin 8, (UInt8.ofNat (bits BinOp.or .u8 u.val (2 ^ r.val % 256)).toNat).toNat.testBit j.val = (u.val.testBit j.val || decide (r.val = j.val)) := by decide +kernel
theorem orB_bit (u : UInt8) {r j : Nat} (hr : r < 8) (hj : j < 8) : (orB u r).toNat.testBit j = (u.toNat.testBit j || decide (r = j)) := orB_bit_all ⟨u.toNat, u.toNat_lt⟩ ⟨r, hr⟩ ⟨j, hj⟩
theorem clr_bit_all : ∀ u : Fin 256, ∀ r : Fin 8, (bits BinOp.and .u8 ((u.val : Int) / 2 ^ r.val) 1 == 0) = !(u.val.testBit r.val) := by decide +kernel
/-- Bit r of byte i. -/
def bitAt (bs : List UInt8) (i r : Nat) : Bool := (bs.getD i 0).toNat.testBit r
def hits (p : Int) (i r : Nat) : Bool := decide (p.toNat / 8 = i) && decide (p.toNat % 8 = r)
theorem orAt_bit (bs : List UInt8) (p : Int) {i r : Nat} (hi : i < bs.length) (hr : r < 8) : bitAt (orAt bs p) i r = (bitAt bs i r || hits p i r) := by
  unfold bitAt hits orAt
  by_cases h : p.toNat / 8 = i
  · subst h
    rw [List.getD_eq_getElem?_getD, List.getElem?_set_self (by omega), Option.getD_some, orB_bit _ (by omega) hr]
    simp
  · rw [List.getD_eq_getElem?_getD, List.getElem?_set_ne h, ← List.getD_eq_getElem?_getD]
    simp [h]
theorem ors_bit (ps : List Int) : ∀ (bs : List UInt8) {i r : Nat}, i < bs.length → r < 8 → bitAt (ps.foldl orAt bs) i r = (bitAt bs i r || ps.any fun p => hits p i r) := by
  induction ps with
  | nil => intro bs i r _ _; simp
  | cons p ps ih =>
    intro bs i r hi hr
    rw [List.foldl_cons, ih _ (by rw [orAt_len]; exact hi) hr, orAt_bit _ _ hi hr, List.any_cons, Bool.or_assoc]
theorem adds_bit (k m : Nat) (keys : List ByteArray) : ∀ (bs : List UInt8) {i r : Nat}, i < bs.length → r < 8 →
    bitAt (keys.foldl (addKey k m) bs) i r = (bitAt bs i r || keys.any fun s => (plcs (hA s) (hB s) m k).any fun p => hits p i r) := by
  induction keys with
  | nil => intro bs i r _ _; simp
  | cons s keys ih =>
    intro bs i r hi hr
    rw [List.foldl_cons, ih _ (by rw [addKey, ors_len]; exact hi) hr, addKey, ors_bit _ _ hi hr, List.any_cons, Bool.or_assoc]
theorem bits_ext {a b : List UInt8} (hl : a.length = b.length) (h : ∀ i r, i < a.length → r < 8 → bitAt a i r = bitAt b i r) : a = b := by
  refine List.ext_getElem hl fun i h1 h2 => ?_
  apply UInt8.toNat_inj.1
  refine Nat.eq_of_testBit_eq fun r => ?_
  by_cases hr : r < 8
  · have := h i r h1 hr
    unfold bitAt at this
    rw [List.getD_eq_getElem?_getD, List.getElem?_eq_getElem h1, List.getD_eq_getElem?_getD, List.getElem?_eq_getElem h2] at this
    exact this
  · have e : ∀ u : UInt8, u.toNat.testBit r = false := fun u => Nat.testBit_lt_two_pow (Nat.lt_of_lt_of_le u.toNat_lt (by
      have := Nat.pow_le_pow_right (n := 2) (by omega) (show 8 ≤ r by omega)
      simpa using this))
    rw [e, e]
theorem bitsOf_len (keys : List ByteArray) (b : Nat) : (bitsOf keys b).length = szOf b keys.length := by rw [bitsOf, adds_len, List.length_replicate]
theorem bitsOf_bit (keys : List ByteArray) (b : Nat) {i r : Nat} (hi : i < szOf b keys.length) (hr : r < 8) :
    bitAt (bitsOf keys b) i r = keys.any fun s => (plcs (hA s) (hB s) (8 * szOf b keys.length : Nat) (kOf b)).any fun p => hits p i r := by
  rw [bitsOf, adds_bit _ _ _ _ (by rw [List.length_replicate]; exact hi) hr]
  have : bitAt (List.replicate (szOf b keys.length) 0) i r = false := by
    unfold bitAt
    rw [List.getD_eq_getElem?_getD, List.getElem?_replicate, if_pos hi]
    simp
  rw [this, Bool.false_or]
/-- THE ORDER OF KEYS, and how often one comes, does not matter. -/
theorem bitsOf_set {k1 k2 : List ByteArray} (b : Nat) (hl : k1.length = k2.length) (h1 : ∀ s ∈ k1, s ∈ k2) (h2 : ∀ s ∈ k2, s ∈ k1) : bitsOf k1 b = bitsOf k2 b := by
  refine bits_ext (by rw [bitsOf_len, bitsOf_len, hl]) fun i r hi hr => ?_
  rw [bitsOf_len] at hi
  rw [bitsOf_bit _ _ hi hr, bitsOf_bit _ _ (by rw [← hl]; exact hi) hr, hl]
  rw [Bool.eq_iff_iff, List.any_eq_true, List.any_eq_true]
  exact ⟨fun ⟨s, hs, e⟩ => ⟨s, h1 s hs, e⟩, fun ⟨s, hs, e⟩ => ⟨s, h2 s hs, e⟩⟩
theorem filterOf_set {k1 k2 : List ByteArray} (b : Nat) (hl : k1.length = k2.length) (h1 : ∀ s ∈ k1, s ∈ k2) (h2 : ∀ s ∈ k2, s ∈ k1) : filterOf k1 b = filterOf k2 b := by
  rw [filterOf, filterOf, bitsOf_set b hl h1 h2]
theorem filterOf_turn (ks : List ByteArray) (by_ b : Nat) : filterOf (ks.drop by_ ++ ks.take by_) b = filterOf ks b := by
  have e := List.take_append_drop by_ ks
  refine filterOf_set b (by rw [List.length_append, List.length_drop, List.length_take]; omega) (fun s hs => ?_) (fun s hs => ?_)
  · rw [← e, List.mem_append]; exact (List.mem_append.1 hs).symm
  · rw [List.mem_append]; rw [← e] at hs; exact (List.mem_append.1 hs).symm

theorem filterOf_size (keys : List ByteArray) (b : Nat) : (filterOf keys b).size = 1 + szOf b keys.length := by
  rw [filterOf, ByteArray.size]
  simp [bitsOf_len]
  omega
theorem filterOf_byte (keys : List ByteArray) (b : Nat) (i : Nat) (hi : i < szOf b keys.length) : byteAt (filterOf keys b) (i + 1) = ((bitsOf keys b).getD i 0).toNat := by
  have h1 : i + 1 < (filterOf keys b).size := by rw [filterOf_size]; omega
  rw [byteAt_in h1]
  have h2 : (filterOf keys b)[i + 1] = (UInt8.ofNat (kOf b) :: bitsOf keys b)[i + 1]'(by rw [List.length_cons, bitsOf_len]; omega) := rfl
  rw [h2, List.getElem_cons_succ, List.getD_eq_getElem?_getD, List.getElem?_eq_getElem (by rw [bitsOf_len]; exact hi)]
  rfl
theorem filterOf_first (keys : List ByteArray) (b : Nat) : byteAt (filterOf keys b) 0 = kOf b := by
  have h1 : 0 < (filterOf keys b).size := by rw [filterOf_size]; omega
  rw [byteAt_in h1]
  have h2 : (filterOf keys b)[0] = UInt8.ofNat (kOf b) := rfl
  have : kOf b ≤ 8 := by unfold kOf; omega
  rw [h2, UInt8.toNat_ofNat']
  omega
theorem szOf_le {b n : Nat} (hb : b ≤ 32) (hn : n ≤ 32768) : 8 ≤ szOf b n ∧ szOf b n ≤ 131072 := by
  unfold szOf
  have : b * n ≤ 32 * 32768 := Nat.mul_le_mul hb hn
  omega
theorem filterOf_ok (keys : List ByteArray) {b : Nat} (hb : b ≤ 32) (hn : keys.length ≤ 32768) : okF (filterOf keys b) := by
  have h1 := szOf_le hb hn
  rw [okF_iff, filterOf_size, filterOf_first]
  have : 1 ≤ kOf b ∧ kOf b ≤ 8 := by unfold kOf; omega
  omega
/-- A FILTER NEVER DENIES ITS KEYS. -/
theorem filterOf_has (keys : List ByteArray) {b : Nat} (hb : b ≤ 32) (hn : keys.length ≤ 32768) (s : ByteArray) (hs : s ∈ keys) : has (filterOf keys b) s = true := by
  have h1 := szOf_le hb hn
  rw [has, if_pos (filterOf_ok keys hb hn), List.all_eq_true]
  intro p hp
  rw [filterOf_size, filterOf_first, Nat.add_sub_cancel_left, Int.toNat_natCast] at hp
  have hpb := plcs_in (hB s) (show (0 : Int) < (8 * szOf b keys.length : Nat) by omega) _ _ p hp
  have hi : p.toNat / 8 < szOf b keys.length := by omega
  have hr : p.toNat % 8 < 8 := by omega
  have hb2 := bitsOf_bit keys b hi hr
  have ht : (keys.any fun s => (plcs (hA s) (hB s) (8 * szOf b keys.length : Nat) (kOf b)).any fun q => hits q (p.toNat / 8) (p.toNat % 8)) = true := by
    rw [List.any_eq_true]
    refine ⟨s, hs, ?_⟩
    rw [List.any_eq_true]
    exact ⟨p, hp, by simp [hits]⟩
  rw [ht] at hb2
  unfold clr
  rw [filterOf_byte _ _ _ hi]
  have h3 := clr_bit_all ⟨((bitsOf keys b).getD (p.toNat / 8) 0).toNat, UInt8.toNat_lt _⟩ ⟨p.toNat % 8, hr⟩
  simp only [] at h3
  rw [h3]
  unfold bitAt at hb2
  rw [hb2]
  rfl
theorem andNot_sub {x y : UInt8} (h : ∀ r, r < 8 → x.toNat.testBit r = true → y.toNat.testBit r = true) : bits .andNot .u8 x.toNat y.toNat = 0 := by
  have e : BitVec.ofInt 8 (x.toNat : Int) &&& ~~~ BitVec.ofInt 8 (y.toNat : Int) = 0#8 := by
    rw [BitVec.ofInt_natCast, BitVec.ofInt_natCast]
    refine BitVec.eq_of_getLsbD_eq fun i hi => ?_
    have := h i hi
    rw [BitVec.getLsbD_and, BitVec.getLsbD_not, BitVec.getLsbD_ofNat, BitVec.getLsbD_ofNat]
    cases hx : x.toNat.testBit i with
    | false => simp
    | true => rw [this hx]; simp
  show IntKind.u8.wrap _ = 0
  rw [show IntKind.bits .u8 = 8 from rfl]
  simp only []
  rw [e]
  rfl
/-- OF FEWER KEYS THERE ARE NO MORE BITS. -/
theorem filterOf_fewer {k1 k2 : List ByteArray} (b : Nat) (hl : k1.length = k2.length) (h1 : ∀ s ∈ k1, s ∈ k2) (i : Nat) (hi : i < szOf b k1.length) :
    bits .andNot .u8 (byteAt (filterOf k1 b) (i + 1)) (byteAt (filterOf k2 b) (i + 1)) = 0 := by
  rw [filterOf_byte _ _ _ hi, filterOf_byte _ _ _ (by rw [← hl]; exact hi)]
  refine andNot_sub fun r hr hx => ?_
  have e1 := bitsOf_bit k1 b hi hr
  have e2 := bitsOf_bit k2 b (by rw [← hl]; exact hi) hr
  unfold bitAt at e1 e2
  rw [e1, List.any_eq_true] at hx
  rw [e2, List.any_eq_true, ← hl]
  obtain ⟨s, hs, e⟩ := hx
  exact ⟨s, h1 s hs, e⟩
end Go.Proofs.Ytgccdndlpjbkhaa
