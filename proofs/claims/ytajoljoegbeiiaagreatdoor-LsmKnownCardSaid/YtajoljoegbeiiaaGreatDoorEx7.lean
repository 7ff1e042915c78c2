/-
  The executor: numbers, strings, equality.
-/
import Derived.Test.YtajoljoegbeiiaaGreatDoorEx6
import Derived.ChangeKeysEq
import Derived.Laws.StructEq
import Derived.LaidEql
import Derived.LaidEqlPtr
namespace Go.Proofs.YtajoljoegbeiiaaGreatDoor
set_option linter.all false
namespace Ex
open Go.RowKit
theorem wrap_small (k : IntKind) (n : Nat) (h : n < topK k) : k.wrap (n : Int) = n := by
  cases k <;> simp only [topK] at h <;> simp [IntKind.wrap, IntKind.signed, IntKind.bits] <;> omega
theorem blt_eq (a b : Nat) : Nat.blt a b = decide (a < b) := by
  rw [Bool.eq_iff_iff, decide_eq_true_iff]
  exact ⟨fun h => Nat.le_of_ble_eq_true h, fun h => Nat.ble_eq_true_of_le h⟩
theorem ble_eq (a b : Nat) : Nat.ble a b = decide (a ≤ b) := by
  rw [Bool.eq_iff_iff, decide_eq_true_iff]
  exact ⟨fun h => Nat.le_of_ble_eq_true h, fun h => Nat.ble_eq_true_of_le h⟩
theorem beq_eq (a b : Nat) : Nat.beq a b = decide (a = b) := by
  rw [Bool.eq_iff_iff, decide_eq_true_iff]
  exact ⟨fun h => Nat.eq_of_beq_eq_true h, fun h => by subst h; exact Nat.beq_refl a⟩
theorem wrapZ_eq (k : IntKind) (z : Int) : wrapZ k z = k.wrap z := by
  cases z with
  | ofNat n =>
    show wrapN k n = _
    unfold wrapN
    rw [blt_eq]
    by_cases h : n < topK k
    · rw [decide_eq_true h]; exact (wrap_small k n h).symm
    · rw [decide_eq_false h]; rfl
  | negSucc n => rfl
theorem ltZ_eq (a b : Int) : ltZ a b = decide (a < b) := by
  cases a <;> cases b <;> simp only [ltZ, blt_eq]
  · rename_i a b; congr 1; simp only [Int.ofNat_eq_natCast]; rw [eq_iff_iff]; omega
  · rename_i a b; symm; rw [decide_eq_false_iff_not]; simp only [Int.ofNat_eq_natCast]; omega
  · rename_i a b; symm; rw [decide_eq_true_iff]; simp only [Int.ofNat_eq_natCast]; omega
  · rename_i a b; congr 1; rw [eq_iff_iff]; omega
theorem eqZ_eq (a b : Int) : eqZ a b = (a == b) := by
  have e : (a == b) = decide (a = b) := by rw [Bool.eq_iff_iff]; simp
  rw [e]
  cases a <;> cases b <;> simp only [eqZ, beq_eq]
  · rename_i a b; congr 1; simp only [Int.ofNat_eq_natCast]; rw [eq_iff_iff]; omega
  · rename_i a b; symm; rw [decide_eq_false_iff_not]; simp only [Int.ofNat_eq_natCast]; omega
  · rename_i a b; symm; rw [decide_eq_false_iff_not]; simp only [Int.ofNat_eq_natCast]; omega
  · rename_i a b; congr 1; rw [eq_iff_iff]; omega
theorem le_not_lt (a b : Int) : (!ltZ b a) = decide (a ≤ b) := by
  rw [ltZ_eq]; by_cases h : b < a
  · simp [h]
  · simp [h]; omega
theorem topK_pow (k : IntKind) : ∃ e, topK k = 2 ^ e ∧ e < k.bits := by
  cases k
  · exact ⟨7, rfl, by decide⟩
  · exact ⟨7, rfl, by decide⟩
  · exact ⟨31, rfl, by decide⟩
  · exact ⟨63, rfl, by decide⟩
  · exact ⟨7, rfl, by decide⟩
  · exact ⟨7, rfl, by decide⟩
  · exact ⟨31, rfl, by decide⟩
  · exact ⟨63, rfl, by decide⟩
theorem ofInt_nat (n a : Nat) : BitVec.ofInt n (Int.ofNat a) = BitVec.ofNat n a := by
  apply BitVec.eq_of_toNat_eq; simp
theorem bits_small {k : IntKind} {a : Nat} (h : a < topK k) : (BitVec.ofInt k.bits (Int.ofNat a)).toNat = a := by
  obtain ⟨e, he, hb⟩ := topK_pow k
  rw [ofInt_nat, BitVec.toNat_ofNat]
  refine Nat.mod_eq_of_lt (Nat.lt_trans h ?_)
  rw [he]; exact Nat.pow_lt_pow_right (by decide) hb
theorem bitsF_and (k : IntKind) (x y : Int) : bitsF Nat.land andG k x y = andG k x y := by
  cases x <;> cases y <;> try rfl
  rename_i a b
  show (bif Nat.blt a (topK k) && Nat.blt b (topK k) then Int.ofNat (Nat.land a b) else andG k (Int.ofNat a) (Int.ofNat b)) = _
  by_cases h : a < topK k ∧ b < topK k
  · rw [blt_eq, blt_eq, decide_eq_true h.1, decide_eq_true h.2]
    show Int.ofNat (a &&& b) = k.wrap ((BitVec.ofInt k.bits (Int.ofNat a) &&& BitVec.ofInt k.bits (Int.ofNat b)).toNat : Int)
    rw [BitVec.toNat_and, bits_small h.1, bits_small h.2, wrap_small k _ (Nat.lt_of_le_of_lt Nat.and_le_left h.1)]
    rfl
  · have : (Nat.blt a (topK k) && Nat.blt b (topK k)) = false := by rw [blt_eq, blt_eq]; simp; omega
    rw [this]; rfl
theorem bitsF_or (k : IntKind) (x y : Int) : bitsF Nat.lor orG k x y = orG k x y := by
  cases x <;> cases y <;> try rfl
  rename_i a b
  show (bif Nat.blt a (topK k) && Nat.blt b (topK k) then Int.ofNat (Nat.lor a b) else orG k (Int.ofNat a) (Int.ofNat b)) = _
  by_cases h : a < topK k ∧ b < topK k
  · rw [blt_eq, blt_eq, decide_eq_true h.1, decide_eq_true h.2]
    show Int.ofNat (a ||| b) = k.wrap ((BitVec.ofInt k.bits (Int.ofNat a) ||| BitVec.ofInt k.bits (Int.ofNat b)).toNat : Int)
    obtain ⟨e, he, _⟩ := topK_pow k
    rw [BitVec.toNat_or, bits_small h.1, bits_small h.2, wrap_small k _ (by rw [he] at h ⊢; exact Nat.or_lt_two_pow h.1 h.2)]
    rfl
  · have : (Nat.blt a (topK k) && Nat.blt b (topK k)) = false := by rw [blt_eq, blt_eq]; simp; omega
    rw [this]; rfl
theorem bitsF_xor (k : IntKind) (x y : Int) : bitsF Nat.xor xorG k x y = xorG k x y := by
  cases x <;> cases y <;> try rfl
  rename_i a b
  show (bif Nat.blt a (topK k) && Nat.blt b (topK k) then Int.ofNat (Nat.xor a b) else xorG k (Int.ofNat a) (Int.ofNat b)) = _
  by_cases h : a < topK k ∧ b < topK k
  · rw [blt_eq, blt_eq, decide_eq_true h.1, decide_eq_true h.2]
    show Int.ofNat (a ^^^ b) = k.wrap ((BitVec.ofInt k.bits (Int.ofNat a) ^^^ BitVec.ofInt k.bits (Int.ofNat b)).toNat : Int)
    obtain ⟨e, he, _⟩ := topK_pow k
    rw [BitVec.toNat_xor, bits_small h.1, bits_small h.2, wrap_small k _ (by rw [he] at h ⊢; exact Nat.xor_lt_two_pow h.1 h.2)]
    rfl
  · have : (Nat.blt a (topK k) && Nat.blt b (topK k)) = false := by rw [blt_eq, blt_eq]; simp; omega
    rw [this]; rfl
theorem pow_min (k : IntKind) (n : Nat) : (Int.ofNat (Nat.pow 2 (Nat.min n k.bits))) = (2 : Int) ^ (min n k.bits) := by
  show ((2 ^ (min n k.bits) : Nat) : Int) = _
  simp
/-- Arithmetic on integers. -/
theorem binInts_ok {P : Program} {op : BinOp} {k k' : IntKind} {x y : Int} {v : AV} (h : binInts op k k' x y = some v) (m : Mz) (t : TypeId) (w : World) :
    ∃ u, (Go.binOp op t (.int k x) (.int k' y)).run P w = .ok u w ∧ VR m v u := by
  by_cases hsh : op = .shl ∨ op = .shr
  · rcases hsh with rfl | rfl
    · obtain ⟨n, hn, h⟩ := bind_some (show (natZ y).bind (shlN k x) = some v from h)
      cases y with
      | negSucc y => cases hn
      | ofNat y =>
        obtain rfl : y = n := Option.some.inj hn
        cases h
        refine ⟨_, ?_, .int k _⟩
        rw [wrapZ_eq, pow_min]
        simp only [Go.binOp, Op.shift, Int.ofNat_eq_natCast]
        rw [if_neg (by omega)]
        simp
    · obtain ⟨n, hn, h⟩ := bind_some (show (natZ y).bind (shrN k x) = some v from h)
      cases y with
      | negSucc y => cases hn
      | ofNat y =>
        obtain rfl : y = n := Option.some.inj hn
        have e : (Go.binOp .shr t (.int k x) (.int k' (Int.ofNat y))).run P w = .ok (.int k (x.fdiv (2 ^ (min y k.bits)))) w := by
          simp only [Go.binOp, Op.shift, Int.ofNat_eq_natCast]
          rw [if_neg (by omega)]
          simp
        refine ⟨_, e, ?_⟩
        cases x with
        | ofNat x =>
          cases h
          have : (Int.ofNat x).fdiv (2 ^ (min y k.bits)) = Int.ofNat (Nat.div x (Nat.pow 2 (Nat.min y k.bits))) := by
            rw [← pow_min]; exact (Int.ofNat_fdiv x _).symm
          rw [this]; exact .int k _
        | negSucc x =>
          cases h
          rw [pow_min]; exact .int k _
  · have hb : (bif sameK k k' then binI op k x y else none) = some v := by
      cases op <;> first | exact h | exact absurd (.inl rfl) hsh | exact absurd (.inr rfl) hsh
    obtain ⟨hk, hb1⟩ := cond_some hb
    have hkk : k = k' := by simpa [sameK] using hk
    subst hkk
    clear hb hk
    have hq : ∀ {c : Bool} {z : Option AV}, (bif c then none else z) = some v → c = false ∧ z = some v := fun {c z} hc => by cases c <;> first | exact ⟨rfl, hc⟩ | cases hc
    cases op
    case shl => exact absurd (.inl rfl) hsh
    case shr => exact absurd (.inr rfl) hsh
    case add => cases hb1; exact ⟨.int k (k.wrap (x + y)), by simp [Go.binOp, Op.intArith], by rw [wrapZ_eq]; exact .int k _⟩
    case sub => cases hb1; exact ⟨.int k (k.wrap (x - y)), by simp [Go.binOp, Op.intArith], by rw [wrapZ_eq]; exact .int k _⟩
    case mul => cases hb1; exact ⟨.int k (k.wrap (x * y)), by simp [Go.binOp, Op.intArith], by rw [wrapZ_eq]; exact .int k _⟩
    case quo =>
      obtain ⟨h0, h1⟩ := hq (show (bif eqZ y (Int.ofNat 0) then none else iInt k (wrapZ k (Int.tdiv x y))) = some v from hb1)
      cases h1
      have h0 : ¬ y = 0 := by rw [eqZ_eq] at h0; simpa using h0
      exact ⟨.int k (k.wrap (x.tdiv y)), by simp [Go.binOp, Op.intDiv, h0], by rw [wrapZ_eq]; exact .int k _⟩
    case rem =>
      obtain ⟨h0, h1⟩ := hq (show (bif eqZ y (Int.ofNat 0) then none else iInt k (Int.tmod x y)) = some v from hb1)
      cases h1
      have h0 : ¬ y = 0 := by rw [eqZ_eq] at h0; simpa using h0
      exact ⟨.int k (x.tmod y), by simp [Go.binOp, Op.intDiv, h0], .int k _⟩
    case and => cases hb1; exact ⟨.int k (andG k x y), by simp [Go.binOp, Op.intBits, andG], by rw [bitsF_and]; exact .int k _⟩
    case or => cases hb1; exact ⟨.int k (orG k x y), by simp [Go.binOp, Op.intBits, orG], by rw [bitsF_or]; exact .int k _⟩
    case xor => cases hb1; exact ⟨.int k (xorG k x y), by simp [Go.binOp, Op.intBits, xorG], by rw [bitsF_xor]; exact .int k _⟩
    case andNot => cases hb1; exact ⟨.int k (andNotG k x y), by simp [Go.binOp, Op.intBits, andNotG], .int k _⟩
    case eql => cases hb1; exact ⟨.bool (x == y), by simp [Go.binOp, Op.intCmp], by rw [eqZ_eq]; exact .bool _⟩
    case neq => cases hb1; exact ⟨.bool (x != y), by simp [Go.binOp, Op.intCmp], by rw [eqZ_eq]; exact .bool _⟩
    case lss => cases hb1; exact ⟨.bool (x < y), by simp [Go.binOp, Op.intCmp], by rw [ltZ_eq]; exact .bool _⟩
    case leq => cases hb1; exact ⟨.bool (x ≤ y), by simp [Go.binOp, Op.intCmp], by rw [le_not_lt]; exact .bool _⟩
    case gtr => cases hb1; exact ⟨.bool (x > y), by simp [Go.binOp, Op.intCmp], by rw [ltZ_eq]; exact .bool _⟩
    case geq => cases hb1; exact ⟨.bool (x ≥ y), by simp [Go.binOp, Op.intCmp], by rw [le_not_lt]; exact .bool _⟩
/-! ### Strings -/
theorem n8_eq (u : UInt8) : n8 u = u.toNat := rfl
theorem eqS_eq : ∀ (s t : List UInt8), eqS s t = (s == t)
  | [], [] => rfl
  | [], _ :: _ => rfl
  | _ :: _, [] => rfl
  | a :: s, b :: t => by
    show (bif Nat.beq (n8 a) (n8 b) then eqS s t else false) = _
    rw [eqS_eq s t, beq_eq, n8_eq, n8_eq]
    by_cases h : a = b
    · subst h; simp
    · have : ¬ a.toNat = b.toNat := fun e => h (UInt8.toNat.inj e)
      simp [h, this]
theorem ltS_eq : ∀ (s t : List UInt8), ltS s t = Op.bytesLess s t
  | [], [] => rfl
  | [], _ :: _ => rfl
  | _ :: _, [] => rfl
  | a :: s, b :: t => by
    show (bif Nat.blt (n8 a) (n8 b) then true else bif Nat.beq (n8 a) (n8 b) then ltS s t else false) = _
    rw [ltS_eq s t, beq_eq, blt_eq, n8_eq, n8_eq, Op.bytesLess]
    have e1 : (decide (a < b) : Bool) = decide (a.toNat < b.toNat) := by congr 1
    have e2 : (a == b) = decide (a.toNat = b.toNat) := by
      by_cases h : a = b
      · subst h; simp
      · have : ¬ a.toNat = b.toNat := fun e => h (UInt8.toNat.inj e)
        simp [h, this]
    rw [e1, e2]
    by_cases h1 : a.toNat < b.toNat <;> by_cases h2 : a.toNat = b.toNat <;> simp [h1, h2]
theorem bl_eq : ∀ (x y : List UInt8), (Op.bytesLess x y || x == y) = !Op.bytesLess y x
  | [], [] => rfl
  | [], _ :: _ => rfl
  | _ :: _, [] => rfl
  | a :: x, b :: y => by
    have ih := bl_eq x y
    rw [Op.bytesLess, Op.bytesLess]
    by_cases h1 : a < b
    · have h2 : ¬ b < a := by simp only [UInt8.lt_iff_toNat_lt] at *; omega
      have h3 : ¬ b = a := by rintro rfl; simp only [UInt8.lt_iff_toNat_lt] at h1; omega
      simp [h1, h2, h3]
    · by_cases h2 : b < a
      · have h3 : ¬ a = b := by rintro rfl; simp only [UInt8.lt_iff_toNat_lt] at h2; omega
        simp [h1, h2, h3]
      · have h3 : a = b := by
          apply UInt8.toNat.inj
          simp only [UInt8.lt_iff_toNat_lt] at h1 h2; omega
        subst h3
        simp only [h1, decide_false, Bool.false_or, beq_self_eq_true, Bool.true_and]
        rw [← ih]
        simp
theorem toList_str (s : List UInt8) : (⟨s.toArray⟩ : ByteArray).toList = s := by rw [ByteArray.toList_eq]
theorem binS_ok {P : Program} {op : BinOp} {x y : List UInt8} {v : AV} (h : binS op x y = some v) (m : Mz) (t : TypeId) (w : World) :
    ∃ u, (Go.binOp op t (.string ⟨x.toArray⟩) (.string ⟨y.toArray⟩)).run P w = .ok u w ∧ VR m v u := by
  cases op <;> first | (cases h; done) | skip
  case add =>
    obtain ⟨hl, h⟩ := cond_some h
    cases h
    rw [lenL_eq, lenL_eq, blt_eq] at hl
    have hl : x.length + y.length < 1073741824 := by simpa using hl
    refine ⟨.string ⟨(x ++ y).toArray⟩, ?_, by rw [cat_eq]; exact .str _⟩
    have e : (⟨x.toArray⟩ : ByteArray) ++ ⟨y.toArray⟩ = ⟨(x ++ y).toArray⟩ := by
      apply ByteArray.ext; simp
    have hs : ¬ ((((⟨x.toArray⟩ : ByteArray).size + (⟨y.toArray⟩ : ByteArray).size : Nat) : Int) > IntKind.i64.max) := by
      have e1 : (⟨x.toArray⟩ : ByteArray).size = x.length := rfl
      have e2 : (⟨y.toArray⟩ : ByteArray).size = y.length := rfl
      have e3 : IntKind.i64.max = 9223372036854775807 := by decide
      rw [e1, e2, e3]; omega
    simp only [Go.binOp, Op.stringOp, if_neg hs, e, Sem.run_pure]
  case eql => cases h; exact ⟨.bool (x == y), by simp only [Go.binOp, Op.stringOp, toList_str]; rfl, by rw [eqS_eq]; exact .bool _⟩
  case neq => cases h; exact ⟨.bool (!(x == y)), by simp only [Go.binOp, Op.stringOp, toList_str]; rfl, by rw [eqS_eq]; exact .bool _⟩
  case lss => cases h; exact ⟨.bool (Op.bytesLess x y), by simp only [Go.binOp, Op.stringOp, toList_str]; rfl, by rw [ltS_eq]; exact .bool _⟩
  case leq => cases h; exact ⟨.bool (Op.bytesLess x y || x == y), by simp only [Go.binOp, Op.stringOp, toList_str]; rfl, by rw [ltS_eq, ← bl_eq]; exact .bool _⟩
  case gtr => cases h; exact ⟨.bool (!(Op.bytesLess x y || x == y)), by simp only [Go.binOp, Op.stringOp, toList_str]; rfl, by
    have : ltS y x = (!(Op.bytesLess x y || x == y)) := by rw [bl_eq, ltS_eq]; simp
    rw [this]; exact .bool _⟩
  case geq => cases h; exact ⟨.bool (!Op.bytesLess x y), by simp only [Go.binOp, Op.stringOp, toList_str]; rfl, by rw [ltS_eq]; exact .bool _⟩
end Ex
end Go.Proofs.YtajoljoegbeiiaaGreatDoor
