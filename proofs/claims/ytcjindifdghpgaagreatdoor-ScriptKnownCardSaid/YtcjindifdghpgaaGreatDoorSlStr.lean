/-
  A string appended to a row of bytes, in the small separation logic; worlds that keep what lies below.
-/
import Derived.Test.YtcjindifdghpgaaGreatDoorSlA
import Derived.Lib.AppendStr
namespace Go.Proofs.YtcjindifdghpgaaGreatDoor
open Go.RowKit
section
variable {P : Program} {t e : TypeId} {B w w' : World} {L : List HP} {n m : Nat} {v x : Value} {xs news : List Value}

theorem Sat.of_below (h : Sat B L w) (hb : Below w.heap.size w w') : Sat B L w' := by
  obtain ⟨y, h1, h2⟩ := h.own
  refine ⟨hb.os.trans h.os, hb.tape.trans h.tape, hb.output.trans h.output, Nat.le_trans h.size hb.size, fun k hk => ?_, y, h1, fun k o e => ?_⟩
  · rw [hb.block k (Nat.lt_of_lt_of_le hk h.size)]; exact h.old k hk
  · have := h2 k o e
    refine ⟨?_, this.2⟩
    rw [hb.block k (Array.getElem?_eq_some_iff.1 this.1).1]; exact this.1

theorem strCells_u8s (s : ByteArray) : Lib.strCells s = u8s s.data.toList := by simp [Lib.strCells, u8s]

theorem run_append_str (E : Elem P t e (.int .u8 0) 1 1) (u ty : TypeId) (hu : P.underlying u = some .string) (hS : Sat B (row e 1 v n xs :: L) w) (s : ByteArray)
    (b1 : n + s.size ≤ maxLen) (b2 : n + s.size ≤ 140737488355328) :
    ∃ a c w', (Builtin.append_ #[t, u] ty #[v, .string s]).run P w = .ok (.slice a (n + s.size) c) w' ∧ Sat B (row e 1 (.slice a (n + s.size) c) (n + s.size) (xs ++ Lib.strCells s) :: L) w' := by
  obtain ⟨i, hi, hz0, hz1, hz2⟩ := info_parts E.info
  have ht := E.ht
  have hone := hS.row_one
  have hlx := hS.row_len
  have hsl := Lib.strCells_length s
  have hz1' : (Value.int IntKind.u8 0).cells.size = 1 := rfl
  have h1 : ∀ u ∈ Lib.strCells s, u.oneCell' = true := by rw [strCells_u8s]; exact u8s_one _
  have hlen : (xs ++ Lib.strCells s).length = (n + s.size) * 1 := by rw [List.length_append, hlx, hsl]; omega
  have h1' : ∀ u ∈ xs ++ Lib.strCells s, u.oneCell' = true := fun u hu => (List.mem_append.1 hu).elim (hone u) (h1 u)
  have hf := Lib.run_firstCells_string (P := P) w 1 s
  by_cases hm : s.size = 0
  · have hn : Lib.strCells s = [] := List.eq_nil_of_length_eq_zero (by rw [hsl]; exact hm)
    rw [hm] at hf
    rw [hn, hm, List.append_nil, Nat.add_zero]
    rcases hS.row_form with ⟨rfl, rfl, rfl⟩ | ⟨g, off, cap, rfl, hnc, _⟩
    · exact ⟨none, 0, w, by simp [Builtin.append_, run_underlying ht, run_underlying hu, sizeOf, typeInfo, hi, hz1, Builtin.lenOf, hm, hf], hS⟩
    · exact ⟨some ⟨g, off, none⟩, cap, w, by simp [Builtin.append_, run_underlying ht, run_underlying hu, sizeOf, typeInfo, hi, hz1, Builtin.lenOf, hm, hf, hn, hnc, storeCells], hS⟩
  · have grown : ∀ (old : Nat), old < n + s.size → ∀ w1 : World, w1 = w.drew.alloc (.cells (xs.toArray ++ (Lib.strCells s).toArray ++ Builtin.zeroCells (Value.int .u8 0).cells (grownCap w (n + s.size) old e - (n + s.size))) e) →
        Sat B (row e 1 (.slice (some ⟨w.heap.size, 0, none⟩) (n + s.size) (grownCap w (n + s.size) old e)) (n + s.size) (xs ++ Lib.strCells s) :: L) w1 := by
      intro old ho w1 hw1
      have hge := grownCap_ge w (n + s.size) old e
      have hcm : grownCap w (n + s.size) old e ≤ maxLen := grownCap_le_maxLen w (n + s.size) old e b1
      have h2 := hS.drop.drew.alloc (.cells (xs.toArray ++ (Lib.strCells s).toArray ++ Builtin.zeroCells (Value.int .u8 0).cells (grownCap w (n + s.size) old e - (n + s.size))) e)
      rw [← hw1] at h2
      refine h2.pt_row _ _ _ _ hlen h1' hge hcm ?_ ?_
      · simp only [Array.size_append, List.size_toArray, size_zeroCells, hz1', hlx, hsl]
        omega
      · simp only [Array.toList_append, List.append_assoc, List.drop_zero]
        rw [← List.append_assoc, ← hlen]
        exact List.take_left
    rcases hS.row_form with ⟨rfl, rfl, rfl⟩ | ⟨g, off, cap, rfl, hnc, hcm, hge, hlt, hcells, hfree, hthere⟩
    · have hr := run_append_nil_string (P := P) w t u ty e i (.int .u8 0) ht hu hi hz0 s (by omega) (by simp only [maxLen] at b1; omega) (by rw [hz2]; omega)
      have e1 : (s.data.map fun b => Value.int .u8 b.toNat) = (Lib.strCells s).toArray := by
        apply Array.ext'
        simp [Lib.strCells]
      rw [e1] at hr
      rw [Nat.zero_add]
      have hg := grown 0 (by omega)
      rw [Nat.zero_add] at hg
      exact ⟨_, _, _, hr, hg _ (by simp)⟩
    · by_cases hroom : n + s.size ≤ cap
      · obtain ⟨y, ⟨_, _, hA⟩, hy⟩ := hS.says
        rcases hA with ⟨hv, _⟩ | ⟨g', off', cap', cur, hv, hg, _, _, hs, hcur⟩
        · cases hv
        cases hv
        have hgw := (hy g _ hg).1
        have hst := run_storeCells_at P g (off + n) e (Lib.strCells s) 0 cur w hgw (by rw [hsl]; omega) h1
        simp only [Nat.add_zero] at hst
        refine ⟨some ⟨g, off, none⟩, cap, w.setRow g (cur.toList.take (off + n) ++ Lib.strCells s ++ cur.toList.drop (off + n + (Lib.strCells s).length)).toArray, ?_, ?_⟩
        rotate_left
        · refine hS.turn rfl rfl rfl (by simp) fun a ha h2 => ?_
          obtain ⟨_, _, hA⟩ := ha
          rcases hA with ⟨hv, _⟩ | ⟨g2, off2, cap2, cur2, hv, hg2, _⟩
          · cases hv
          cases hv
          have hcc : cur2 = cur := by have := (h2 g _ hg2).1; rw [hgw] at this; cases this; rfl
          subst hcc
          refine ⟨fun k => if k = g then some (.cells (cur2.toList.take (off + n) ++ Lib.strCells s ++ cur2.toList.drop (off + n + (Lib.strCells s).length)).toArray e (0, 0)) else none,
            ⟨hlen, h1', .inr ⟨g, off, cap, _, rfl, if_pos rfl, hroom, hcm, ?_, ?_⟩⟩, ?_, ?_⟩
          · simp; omega
          · have hd := drop_take_upd cur2.toList xs (Lib.strCells s) off n (by simpa using hcur) (by simpa using hlx) (by have := Array.length_toList (xs := cur2); omega)
            rw [hsl] at hd ⊢
            simpa using hd
          · intro k o ek
            simp only [] at ek
            split at ek
            · rename_i hk; subst hk; cases ek
              exact ⟨setRow_heap w k cur2 _ e (0, 0) hgw, .inl (by rw [hg2]; simp)⟩
            · cases ek
          · intro k hk hak
            refine setRow_other w g k _ ?_
            intro hkg
            rw [hkg, hg2] at hak; cases hak
        · have e1 : (Lib.strCells s).toArray.toList = Lib.strCells s := rfl
          have e2 : (s.data.map fun b => Value.int .u8 b.toNat).toList = Lib.strCells s := by simp [Lib.strCells]
          simp [Builtin.append_, run_underlying ht, run_underlying hu, sizeOf, typeInfo, hi, hz1, Builtin.lenOf, hroom, hf, addr_add]
          first | exact hst | (simp [hst])
      · have hr := Lib.run_append_grow_string (P := P) w t u ty e i (.int .u8 0) ht hu hi hz0 ⟨g, off, none⟩ n cap xs (by rw [hz1]; simpa using hlx) (fun j u hu => by rw [addr_add]; exact hcells j u hu) s (by omega) (by simp only [maxLen] at b1; omega) (by rw [hz2]; exact growslice_fits (by omega) (by omega))
        exact ⟨_, _, _, hr, grown cap (by omega) _ rfl⟩

theorem wp_append_str {o : Oper} {a : Act} {K : Act → World → Prop} {Q : Exit → Act → World → Prop} (E : Elem P t e (.int .u8 0) 1 1) (u : TypeId) (hu : P.underlying u = some .string) (s x : Operand)
    (ho : o.op = .call { callee := .builtin .append, args := #[s, x], argTypes := #[t, u] })
    (v : Value) (b : ByteArray) (n N : Nat) (xs ys : List Value) (hs : a.eval s = v) (hxv : a.eval x = .string b) (hS : Sat B (row e 1 v n xs :: L) w) (hN : N = n + b.size) (hys : ys = xs ++ u8s b.data.toList)
    (b1 : N ≤ maxLen) (b2 : N ≤ 140737488355328)
    (h : ∀ a' c w', Sat B (row e 1 (.slice a' N c) N ys :: L) w' → K (a.put o.dst (.slice a' N c)) w') : o.wp P a w K Q := by
  subst hN; subst hys
  obtain ⟨a', c, w', hr, hS'⟩ := run_append_str E u o.type hu hS b b1 b2
  rw [strCells_u8s] at hS'
  unfold Oper.wp execOp
  simp only [ho, resolve, invoke, builtin, Sem.run_bind, Sem.run_pure, Result.andThen_ok, List.map_toArray, List.map_cons, List.map_nil, hs, hxv, hr]
  exact h a' c w' hS'
theorem wpList_append_str {ops : Array Oper} {rest : List Oper} {o : Oper} {a : Act} {Q : Exit → Act → World → Prop} (hgd : o.guard = none) (E : Elem P t e (.int .u8 0) 1 1) (u : TypeId) (hu : P.underlying u = some .string) (s x : Operand)
    (ho : o.op = .call { callee := .builtin .append, args := #[s, x], argTypes := #[t, u] })
    (v : Value) (b : ByteArray) (n N : Nat) (xs ys : List Value) (hs : a.eval s = v) (hxv : a.eval x = .string b) (hS : Sat B (row e 1 v n xs :: L) w) (hN : N = n + b.size) (hys : ys = xs ++ u8s b.data.toList)
    (b1 : N ≤ maxLen) (b2 : N ≤ 140737488355328)
    (h : ∀ a' c w', Sat B (row e 1 (.slice a' N c) N ys :: L) w' → wpList P ops Q rest (a.put o.dst (.slice a' N c)) w') : wpList P ops Q (o :: rest) a w :=
  wpList_plain hgd fun _ hK => wp_append_str E u hu s x ho v b n N xs ys hs hxv hS hN hys b1 b2 fun a' c w' hS' => hK _ _ (h a' c w' hS')
end
#print axioms wpList_append_str
end Go.Proofs.YtcjindifdghpgaaGreatDoor
