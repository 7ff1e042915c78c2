/-
  A slice that a contract hands back, as a row; 'clear' of a row's end.
-/
import Derived.Test.YtdngjkjoahgelaaGreatDoorSlMore
import Derived.Lib.SliceRun
namespace Go.Proofs.YtdngjkjoahgelaaGreatDoor
set_option linter.all false
open Go.RowKit
section
variable {P : Program} {B w w' : World} {L : List HP} {t e : TypeId} {n : Nat} {v z : Value} {xs : List Value}
theorem Sat.of_owns (h : Sat B L w) (hb : Below w.heap.size w w') (ho : w'.ownsRow w.heap.size e 1 v n xs) (h1 : ∀ u ∈ xs, u.oneCell' = true) : Sat B (row e 1 v n xs :: L) w' := by
  obtain ⟨hl, ho⟩ := ho
  refine (Sat.fact_in (p := True) trivial h).turn hb.os hb.tape hb.output hb.size fun a _ h2 => ?_
  rcases ho with ⟨rfl, rfl⟩ | ⟨g, cap, cur, rfl, hg, hc, hn, hm, hs, ht⟩
  · refine ⟨fun _ => none, ⟨hl, h1, .inl ⟨rfl, rfl⟩⟩, (fun k o e => by cases e), fun k hk _ => hb.block k hk⟩
  · refine ⟨fun k => if k = g then some (.cells cur e (0, 0)) else none, ⟨hl, h1, .inr ⟨g, 0, cap, cur, rfl, if_pos rfl, hn, hm, by omega, by rw [List.drop_zero]; exact ht⟩⟩, fun k o ek => ?_, fun k hk _ => hb.block k hk⟩
    simp only [] at ek
    split at ek
    · rename_i hk; subst hk; cases ek; exact ⟨hc, .inr hg⟩
    · cases ek
theorem run_clear_row (ty : TypeId) (ht : P.underlying t = some (.slice e)) (hz : ∀ w, (zeroValue e).run P w = .ok z w) (hc : z.cells = #[z]) (hz1 : z.oneCell' = true) {g off cap : Nat}
    (hS : Sat B (row e 1 (.slice (some ⟨g, off, none⟩) n cap) n xs :: L) w) (i m cc : Nat) (a : Option Addr) (hi : i + m = n) (ha : m = 0 ∨ a = some ⟨g, off + i, none⟩) :
    ∃ w', (Builtin.clear_ #[t] ty #[.slice a m cc]).run P w = .ok (.tuple #[]) w' ∧ Sat B (row e 1 (.slice (some ⟨g, off, none⟩) n cap) n (xs.take i ++ List.replicate m z) :: L) w' := by
  have hlx := hS.row_len
  have hone := hS.row_one
  by_cases hm0 : m = 0
  · subst hm0
    refine ⟨w, ?_, ?_⟩
    · cases a <;> simp [Builtin.clear_, run_underlying ht]
    · rw [List.take_of_length_le (by omega), List.replicate_zero, List.append_nil]; exact hS
  · obtain rfl := ha.resolve_left hm0
    obtain ⟨y, ⟨_, _, hA⟩, hy⟩ := hS.says
    rcases hA with ⟨hv, _⟩ | ⟨g', off', cap', cur, hv, hg, hn, hcm, hs, hcur⟩
    · cases hv
    cases hv
    have hgw := (hy g _ hg).1
    have hzs : ∀ u ∈ List.replicate m z, u.oneCell' = true := fun u hu => by rw [List.eq_of_mem_replicate hu]; exact hz1
    have hst := run_storeCells_at P g (off + i) e (List.replicate m z) 0 cur w hgw (by simp; omega) hzs
    simp only [Nat.add_zero] at hst
    have hzc : (Builtin.zeroCells z.cells m).toList = List.replicate m z := by
      rw [hc]
      simp [Builtin.zeroCells]
      apply List.ext_getElem
      · simp
      · intro i h1 h2
        simp [Nat.mod_one]
    refine ⟨w.setRow g (cur.toList.take (off + i) ++ List.replicate m z ++ cur.toList.drop (off + i + (List.replicate m z).length)).toArray, ?_, ?_⟩
    · obtain ⟨q, rfl⟩ : ∃ q, m = q + 1 := ⟨m - 1, by omega⟩
      simp [Builtin.clear_, run_underlying ht, hz, hzc]
      simp at hst
      simp [hst]
    · refine hS.turn rfl rfl rfl (by simp) fun a ha h2 => ?_
      obtain ⟨_, _, hA⟩ := ha
      rcases hA with ⟨hv, _⟩ | ⟨g2, off2, cap2, cur2, hv, hg2, _⟩
      · cases hv
      cases hv
      have hcc : cur2 = cur := by have := (h2 g _ hg2).1; rw [hgw] at this; cases this; rfl
      subst hcc
      refine ⟨fun k => if k = g then some (.cells (cur2.toList.take (off + i) ++ List.replicate m z ++ cur2.toList.drop (off + i + (List.replicate m z).length)).toArray e (0, 0)) else none,
        ⟨?_, ?_, .inr ⟨g, off, cap, _, rfl, if_pos rfl, hn, hcm, ?_, ?_⟩⟩, ?_, ?_⟩
      · simp [hlx]; omega
      · intro u hu
        rcases List.mem_append.1 hu with hu | hu
        · exact hone u (List.mem_of_mem_take hu)
        · exact hzs u hu
      · simp; omega
      · have hlen : (cur2.toList.take (off + i)).length = off + i := by rw [List.length_take, Array.length_toList]; omega
        have e1 : cur2.toList.take (off + i) = cur2.toList.take off ++ xs.take i := by
          rw [List.take_add, ← hcur, List.take_take, Nat.min_eq_left (by omega)]
        have hlo : (cur2.toList.take off).length = off := by rw [List.length_take, Array.length_toList]; omega
        rw [e1, List.append_assoc, List.append_assoc, List.drop_append_of_le_length (by omega), List.drop_of_length_le (by omega), List.nil_append, ← List.append_assoc]
        rw [List.take_append_of_le_length (by simp; omega), List.take_of_length_le (by simp; omega)]
      · intro k o ek
        simp only [] at ek
        split at ek
        · rename_i hk; subst hk; cases ek
          exact ⟨setRow_heap w k cur2 _ e (0, 0) hgw, .inl (by rw [hg2]; simp)⟩
        · cases ek
      · intro k hk hak
        refine setRow_other w g k _ ?_
        intro hkg
        rw [hkg, hg2] at hak; cases hak
theorem wpList_clear_row {ops : Array Oper} {rest : List Oper} {o : Oper} {a : Act} {Q : Exit → Act → World → Prop} (hgd : o.guard = none) (ht : P.underlying t = some (.slice e)) (hz : ∀ w, (zeroValue e).run P w = .ok z w) (hc : z.cells = #[z]) (hz1 : z.oneCell' = true) (x : Operand)
    (ho : o.op = .call { callee := .builtin .clear, args := #[x], argTypes := #[t] }) {g off cap : Nat} (i m cc : Nat) (ad : Option Addr) (hxv : a.eval x = .slice ad m cc)
    (hS : Sat B (row e 1 (.slice (some ⟨g, off, none⟩) n cap) n xs :: L) w) (hi : i + m = n) (ha : m = 0 ∨ ad = some ⟨g, off + i, none⟩)
    (h : ∀ w', Sat B (row e 1 (.slice (some ⟨g, off, none⟩) n cap) n (xs.take i ++ List.replicate m z) :: L) w' → wpList P ops Q rest (a.put o.dst (.tuple #[])) w') : wpList P ops Q (o :: rest) a w :=
  wpList_plain hgd fun _ hK => by
    obtain ⟨w', hr, hS'⟩ := run_clear_row o.type ht hz hc hz1 hS i m cc ad hi ha
    unfold Oper.wp execOp
    simp only [ho, resolve, invoke, builtin, Sem.run_bind, Sem.run_pure, Result.andThen_ok, List.map_toArray, List.map_cons, List.map_nil, hxv, hr]
    exact hK _ _ (h w' hS')
end
#print axioms wpList_clear_row
end Go.Proofs.YtdngjkjoahgelaaGreatDoor
