/-
  A store into a block that is known whole, in the small separation logic: the world behind it stays without a form.
-/
import Derived.Test.YtcjindifdghpgaaGreatDoorSlA
import Derived.Laws.Tables
namespace Go.Proofs.YtcjindifdghpgaaGreatDoor
open Go.RowKit
section
variable {P : Program} {t T : TypeId} {B w w' : World} {L : List HP}
theorem Sat.whole {b : Nat} {cs vs : Array Value} (h : Sat B (pt b (.cells cs t) :: L) w) : Sat B (pt b (.cells vs t) :: L) (w.setRow b vs) := by
  have hb := h.pt_at
  refine h.turn rfl rfl rfl (by simp) fun a ha h2 => ⟨fun k => if k = b then some (.cells vs t) else none, by simp [pt], ?_, ?_⟩
  · intro k o e
    simp only [] at e
    split at e
    · rename_i hk; subst hk; cases e
      exact ⟨setRow_heap w k cs vs t (0, 0) hb, .inl (by rw [show a k = _ from ha]; simp)⟩
    · cases e
  · intro k hk hak
    refine setRow_other w b k _ ?_
    intro hkb
    rw [hkb, show a b = _ from ha] at hak; cases hak
/-- All cells of a block. -/
theorem wp_store_all {o : Oper} {a : Act} {K : Act → World → Prop} {Q : Exit → Act → World → Prop} (p x : Operand) (ho : o.op = .store T p x) {b : Nat} {cs vs : Array Value}
    (hp : a.eval p = .pointer (some ⟨b, 0, none⟩)) (hx : a.eval x = .agg vs) (hi : (P.info? T).map (·.size) = some vs.size) (hS : Sat B (pt b (.cells cs t) :: L) w) (hz : cs.size = vs.size) (h1 : vs.all (·.oneCell') = true)
    (h : ∀ w', Sat B (pt b (.cells vs t) :: L) w' → K (a.put o.dst undef) w') : o.wp P a w K Q :=
  wp_store_row T p x ho b vs hp hx t cs hS.pt_at hi hz h1 (h _ hS.whole)
theorem wpList_store_all {ops : Array Oper} {rest : List Oper} {o : Oper} {a : Act} {Q : Exit → Act → World → Prop} (hgd : o.guard = none) (p x : Operand) (ho : o.op = .store T p x) {b : Nat} {cs vs : Array Value}
    (hp : a.eval p = .pointer (some ⟨b, 0, none⟩)) (hx : a.eval x = .agg vs) (hi : (P.info? T).map (·.size) = some vs.size) (hS : Sat B (pt b (.cells cs t) :: L) w) (hz : cs.size = vs.size) (h1 : vs.all (·.oneCell') = true)
    (h : ∀ w', Sat B (pt b (.cells vs t) :: L) w' → wpList P ops Q rest (a.put o.dst undef) w') : wpList P ops Q (o :: rest) a w :=
  wpList_plain hgd fun _ hK => wp_store_all p x ho hp hx hi hS hz h1 fun w' hS' => hK _ _ (h w' hS')
/-- A block of one cell. -/
theorem wp_store_one {o : Oper} {a : Act} {K : Act → World → Prop} {Q : Exit → Act → World → Prop} (p x : Operand) (ho : o.op = .store T p x) {b : Nat} {u v : Value}
    (hp : a.eval p = .pointer (some ⟨b, 0, none⟩)) (hx : a.eval x = v) (hv : v.cells = #[v]) (hv1 : v.oneCell' = true) (hi : (P.info? T).map (·.size) = some 1) (hS : Sat B (pt b (.cells #[u] t) :: L) w)
    (h : ∀ w', Sat B (pt b (.cells #[v] t) :: L) w' → K (a.put o.dst undef) w') : o.wp P a w K Q := by
  have hr : (storeVar T ⟨b, 0, none⟩ v).run P w = .ok () (w.setRow b #[v]) := by
    have := run_storeCells_from (P := P) b t [v] 0 #[u] w hS.pt_at rfl (by simpa using hv1)
    cases hq : P.info? T with
    | none => simp [hq] at hi
    | some i =>
      have hs : i.size = 1 := by simpa [hq] using hi
      simp [storeVar, sizeOf, typeInfo, hq, hv, hs] at this ⊢
      exact this
  unfold Oper.wp execOp
  simp only [ho, hp, hx, Instr.storeAt, Instr.sureAddr, Sem.run_bind, Sem.run_pure, Result.andThen_ok, hr]
  exact h _ hS.whole
theorem wpList_store_one {ops : Array Oper} {rest : List Oper} {o : Oper} {a : Act} {Q : Exit → Act → World → Prop} (hgd : o.guard = none) (p x : Operand) (ho : o.op = .store T p x) {b : Nat} {u v : Value}
    (hp : a.eval p = .pointer (some ⟨b, 0, none⟩)) (hx : a.eval x = v) (hv : v.cells = #[v]) (hv1 : v.oneCell' = true) (hi : (P.info? T).map (·.size) = some 1) (hS : Sat B (pt b (.cells #[u] t) :: L) w)
    (h : ∀ w', Sat B (pt b (.cells #[v] t) :: L) w' → wpList P ops Q rest (a.put o.dst undef) w') : wpList P ops Q (o :: rest) a w :=
  wpList_plain hgd fun _ hK => wp_store_one p x ho hp hx hv hv1 hi hS fun w' hS' => hK _ _ (h w' hS')
end
#print axioms wpList_store_one
end Go.Proofs.YtcjindifdghpgaaGreatDoor
