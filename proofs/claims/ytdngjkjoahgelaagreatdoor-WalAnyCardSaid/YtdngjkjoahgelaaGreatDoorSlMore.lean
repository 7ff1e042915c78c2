/-
  More laws at an operation in the small separation logic: a variable that is laid, two arrays of integers held against each other.
-/
import Derived.Test.YtdngjkjoahgelaaGreatDoorSlOps
import Derived.ChangeKeysEq
namespace Go.Proofs.YtdngjkjoahgelaaGreatDoor
open Go.RowKit
section
variable {P : Program} {B w : World} {L : List HP}

/-- A variable laid. -/
theorem wp_alloc_any {o : Oper} {a : Act} {K : Act → World → Prop} {Q : Exit → Act → World → Prop} (T : TypeId) (z : Value) (ho : o.op = .alloc T) (hz : (P.info? T).map (·.zero) = some (some z)) (hS : Sat B L w)
    (h : ∀ b w', b = w.heap.size → w' = w.alloc (.cells z.cells T) → Sat B (pt b (.cells z.cells T) :: L) w' → K (a.put o.dst (.pointer (some ⟨b, 0, none⟩))) w') : o.wp P a w K Q := by
  obtain ⟨i, hi, hiz⟩ := Option.map_eq_some_iff.1 hz
  have hr : (Instr.alloc T true (.tuple #[])).run P w = .ok (.pointer (some ⟨w.heap.size, 0, none⟩)) (w.alloc (.cells z.cells T)) := by
    simp [Instr.alloc, zeroValue, typeInfo, hi, hiz, newVar, newRow]
  unfold Oper.wp execOp
  simp only [ho, Sem.run_bind, Sem.run_pure, Result.andThen_ok, hr]
  exact h _ _ rfl rfl (hS.alloc _)
theorem wpList_alloc_any {ops : Array Oper} {rest : List Oper} {o : Oper} {a : Act} {Q : Exit → Act → World → Prop} (hgd : o.guard = none) (T : TypeId) (z : Value) (ho : o.op = .alloc T) (hz : (P.info? T).map (·.zero) = some (some z)) (hS : Sat B L w)
    (h : ∀ b w', b = w.heap.size → w' = w.alloc (.cells z.cells T) → Sat B (pt b (.cells z.cells T) :: L) w' → wpList P ops Q rest (a.put o.dst (.pointer (some ⟨b, 0, none⟩))) w') : wpList P ops Q (o :: rest) a w :=
  wpList_plain hgd fun _ hK => wp_alloc_any T z ho hz hS fun b w' h1 h2 h3 => hK _ _ (h b w' h1 h2 h3)

/-- Integers as cells. -/
def ints (k : IntKind) (xs : List Int) : Array Value := (xs.map (Value.int k)).toArray

theorem run_eqItems_same (d : Nat) {e : TypeId} {k k' : IntKind} (he : P.underlying e = some (.int k')) (hc : P.cellsOf e = 1) (xs : List Int) :
    ∀ is : List Nat, (∀ i ∈ is, i < xs.length) → (Op.eqItems (d + 1) e (P.cellsOf e) (ints k xs) (ints k xs) is).run P w = .ok true w := by
  intro is
  induction is with
  | nil => intro _; simp [Op.eqItems]
  | cons j is ih =>
    intro h
    have hj : j < xs.length := h j (by simp)
    have ih' := ih fun i hi => h i (by simp [hi])
    have hp : (part e (ints k xs) (j * P.cellsOf e)).run P w = .ok (.int k xs[j]) w := by
      have hag : (isAgg e).run P w = .ok false w := by simp [isAgg, run_underlying he]
      have hcs : (ints k xs)[j * P.cellsOf e]? = some (.int k xs[j]) := by simp [ints, hc, hj]
      simp [part, hag, hcs]
    simp [Op.eqItems, hp, run_equalIn_int w d e k k' _ _ he, ih']
/-- Two arrays of integers that hold the same. -/
theorem wp_eql_ints {o : Oper} {a : Act} {K : Act → World → Prop} {Q : Exit → Act → World → Prop} (x y : Operand) (T e : TypeId) (n : Nat) (k k' : IntKind) (i : TypeInfo) (ho : o.op = .binOp .eql T x y T) (hT : P.underlying T = some (.array n e)) (hi : P.info? e = some i)
    (he : P.underlying e = some (.int k')) (hc : P.cellsOf e = 1) (hg : P.eqGuardType P.depth T = false) (xs : List Int) (hn : xs.length = n) (hx : a.eval x = .agg (ints k xs)) (hy : a.eval y = .agg (ints k xs))
    (h : K (a.put o.dst (.bool true)) w) : o.wp P a w K Q := by
  have h1 : (eqGuard .eql T x y (.agg (ints k xs)) (.agg (ints k xs))).run P w = .ok () w := by simp [eqGuard, hg]
  have h2 : (binOp .eql T (.agg (ints k xs)) (.agg (ints k xs))).run P w = .ok (.bool true) w := by
    rw [run_eql_struct, run_equalIn_array w 9999 _ _ hT hi, run_eqItems_same 9998 he hc xs _ (fun i hi => by rw [hn]; exact List.mem_range.1 hi)]
    rfl
  unfold Oper.wp execOp
  simp only [ho, Sem.run_bind, Sem.run_pure, Result.andThen_ok, hx, hy, h1, h2]
  exact h
theorem wpList_eql_ints {ops : Array Oper} {rest : List Oper} {o : Oper} {a : Act} {Q : Exit → Act → World → Prop} (hgd : o.guard = none) (x y : Operand) (T e : TypeId) (n : Nat) (k k' : IntKind) (i : TypeInfo) (ho : o.op = .binOp .eql T x y T) (hT : P.underlying T = some (.array n e)) (hi : P.info? e = some i)
    (he : P.underlying e = some (.int k')) (hc : P.cellsOf e = 1) (hg : P.eqGuardType P.depth T = false) (xs : List Int) (hn : xs.length = n) (hx : a.eval x = .agg (ints k xs)) (hy : a.eval y = .agg (ints k xs))
    (h : wpList P ops Q rest (a.put o.dst (.bool true)) w) : wpList P ops Q (o :: rest) a w :=
  wpList_plain hgd fun _ hK => wp_eql_ints x y T e n k k' i ho hT hi he hc hg xs hn hx hy (hK _ _ h)

/-- 'append', the new length and list by names of your own. -/
theorem wp_append_to {t e : TypeId} {z : Value} {size bytes : Nat} {o : Oper} {a : Act} {K : Act → World → Prop} {Q : Exit → Act → World → Prop} (E : Elem P t e z size bytes) (s x : Operand)
    (ho : o.op = .call { callee := .builtin .append, args := #[s, x], argTypes := #[t, t] })
    (v vx : Value) (n m N : Nat) (xs news ys : List Value) (hs : a.eval s = v) (hxv : a.eval x = vx) (hS : Sat B (row e size v n xs :: L) w) (hx : reads w vx m news) (hl : news.length = m * size) (h1 : ∀ u ∈ news, u.oneCell' = true)
    (hN : n + m = N) (hys : xs ++ news = ys) (b1 : N ≤ maxLen) (b2 : N * bytes ≤ 140737488355328)
    (h : ∀ a' c w', Sat B (row e size (.slice a' N c) N ys :: L) w' → K (a.put o.dst (.slice a' N c)) w') : o.wp P a w K Q := by
  subst hN; subst hys
  exact wp_append_row E s x ho v vx n m xs news hs hxv hS hx hl h1 b1 b2 h
theorem wpList_append_to {t e : TypeId} {z : Value} {size bytes : Nat} {ops : Array Oper} {rest : List Oper} {o : Oper} {a : Act} {Q : Exit → Act → World → Prop} (hgd : o.guard = none) (E : Elem P t e z size bytes) (s x : Operand)
    (ho : o.op = .call { callee := .builtin .append, args := #[s, x], argTypes := #[t, t] })
    (v vx : Value) (n m N : Nat) (xs news ys : List Value) (hs : a.eval s = v) (hxv : a.eval x = vx) (hS : Sat B (row e size v n xs :: L) w) (hx : reads w vx m news) (hl : news.length = m * size) (h1 : ∀ u ∈ news, u.oneCell' = true)
    (hN : n + m = N) (hys : xs ++ news = ys) (b1 : N ≤ maxLen) (b2 : N * bytes ≤ 140737488355328)
    (h : ∀ a' c w', Sat B (row e size (.slice a' N c) N ys :: L) w' → wpList P ops Q rest (a.put o.dst (.slice a' N c)) w') : wpList P ops Q (o :: rest) a w :=
  wpList_plain hgd fun _ hK => wp_append_to E s x ho v vx n m N xs news ys hs hxv hS hx hl h1 hN hys b1 b2 fun a' c w' hS' => hK _ _ (h a' c w' hS')

/-- A row that is not empty is a block of which some cells are its own. -/
theorem Sat.row_pt {e : TypeId} {size n c : Nat} {a : Option Addr} {xs : List Value} (h : Sat B (row e size (.slice a n c) n xs :: L) w) (hn : 0 < n) :
    ∃ g off cur, a = some ⟨g, off, none⟩ ∧ off + n * size ≤ cur.size ∧ Sat B (pt g (.cells cur e) :: L) w := by
  obtain ⟨y, ⟨p, q, hd, hp, hq, hA, hL⟩, h2⟩ := h.own
  obtain ⟨_, _, hA⟩ := hA
  rcases hA with ⟨hv, h0⟩ | ⟨g, off, cap, cur, hv, hg, hnc, _, hs, _⟩
  · omega
  · cases hv
    have : n * size ≤ c * size := Nat.mul_le_mul_right _ hnc
    exact ⟨g, off, cur, rfl, by omega, h.os, h.tape, h.output, h.size, h.old, y, ⟨p, q, hd, hp, hq, hg, hL⟩, h2⟩
end
#print axioms wp_eql_ints
#print axioms wp_alloc_any
end Go.Proofs.YtdngjkjoahgelaaGreatDoor
