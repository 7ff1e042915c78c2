/-
  A string appended to a row of bytes, in the small separation logic; worlds that keep what lies below. Rows of bytes that '[]byte(s)' has laid (they bear a mark behind their cells): append to them, reading them.
-/
import Derived.Test.YtdngjkjoahgelaaGreatDoorSlA
import Derived.Lib.AppendStr
import Derived.Lib.ConvBytes
import Derived.Lib.AtoiErrMem
import Derived.Lib.FrozenHead
namespace Go.Proofs.YtdngjkjoahgelaaGreatDoor
open Go.RowKit
section
variable {P : Program} {t e : TypeId} {B w w' : World} {L : List HP} {n m : Nat} {v x : Value} {xs news : List Value}

theorem Sat.of_below (h : Sat B L w) (hb : Below w.heap.size w w') : Sat B L w' := by
  obtain ⟨y, h1, h2⟩ := h.own
  refine ⟨hb.os.trans h.os, hb.tape.trans h.tape, hb.output.trans h.output, Nat.le_trans h.size hb.size, fun k hk => ?_, y, h1, fun k o e => ?_⟩
  · rw [hb.block k (Nat.lt_of_lt_of_le hk h.size)]; exact h.old k hk
  · have := h2 k o e
    refine ⟨?_, this.2⟩
    rw [hb.block k (Array.getElem?_eq_some_iff.1 this.1).1]; exact this.1

theorem strCells_u8s (s : ByteArray) : Lib.strCells s = u8s s.data.toList := by simp [Lib.strCells, u8s]

theorem run_append_str (E : Elem P t e (.int .u8 0) 1 1) (u ty : TypeId) (hu : P.underlying u = some .string) (hS : Sat B (row e 1 v n xs :: L) w) (s : ByteArray)
    (b1 : n + s.size ≤ maxLen) (b2 : n + s.size ≤ 140737488355328) :
    ∃ a c w', (Builtin.append_ #[t, u] ty #[v, .string s]).run P w = .ok (.slice a (n + s.size) c) w' ∧ Sat B (row e 1 (.slice a (n + s.size) c) (n + s.size) (xs ++ Lib.strCells s) :: L) w' := by
  obtain ⟨i, hi, hz0, hz1, hz2⟩ := info_parts E.info
  have ht := E.ht
  have hone := hS.row_one
  have hlx := hS.row_len
  have hsl := Lib.strCells_length s
  have hz1' : (Value.int IntKind.u8 0).cells.size = 1 := rfl
  have h1 : ∀ u ∈ Lib.strCells s, u.oneCell' = true := by rw [strCells_u8s]; exact u8s_one _
  have hlen : (xs ++ Lib.strCells s).length = (n + s.size) * 1 := by rw [List.length_append, hlx, hsl]; omega
  have h1' : ∀ u ∈ xs ++ Lib.strCells s, u.oneCell' = true := fun u hu => (List.mem_append.1 hu).elim (hone u) (h1 u)
  have hf := Lib.run_firstCells_string (P := P) w 1 s
  by_cases hm : s.size = 0
  · have hn : Lib.strCells s = [] := List.eq_nil_of_length_eq_zero (by rw [hsl]; exact hm)
    rw [hm] at hf
    rw [hn, hm, List.append_nil, Nat.add_zero]
    rcases hS.row_form with ⟨rfl, rfl, rfl⟩ | ⟨g, off, cap, rfl, hnc, _⟩
    · exact ⟨none, 0, w, by simp [Builtin.append_, run_underlying ht, run_underlying hu, sizeOf, typeInfo, hi, hz1, Builtin.lenOf, hm, hf], hS⟩
    · exact ⟨some ⟨g, off, none⟩, cap, w, by simp [Builtin.append_, run_underlying ht, run_underlying hu, sizeOf, typeInfo, hi, hz1, Builtin.lenOf, hm, hf, hn, hnc, storeCells], hS⟩
  · have grown : ∀ (old : Nat), old < n + s.size → ∀ w1 : World, w1 = w.drew.alloc (.cells (xs.toArray ++ (Lib.strCells s).toArray ++ Builtin.zeroCells (Value.int .u8 0).cells (grownCap w (n + s.size) old e - (n + s.size))) e) →
        Sat B (row e 1 (.slice (some ⟨w.heap.size, 0, none⟩) (n + s.size) (grownCap w (n + s.size) old e)) (n + s.size) (xs ++ Lib.strCells s) :: L) w1 := by
      intro old ho w1 hw1
      have hge := grownCap_ge w (n + s.size) old e
      have hcm : grownCap w (n + s.size) old e ≤ maxLen := grownCap_le_maxLen w (n + s.size) old e b1
      have h2 := hS.drop.drew.alloc (.cells (xs.toArray ++ (Lib.strCells s).toArray ++ Builtin.zeroCells (Value.int .u8 0).cells (grownCap w (n + s.size) old e - (n + s.size))) e)
      rw [← hw1] at h2
      refine h2.pt_row _ _ _ _ hlen h1' hge hcm ?_ ?_
      · simp only [Array.size_append, List.size_toArray, size_zeroCells, hz1', hlx, hsl]
        omega
      · simp only [Array.toList_append, List.append_assoc, List.drop_zero]
        rw [← List.append_assoc, ← hlen]
        exact List.take_left
    rcases hS.row_form with ⟨rfl, rfl, rfl⟩ | ⟨g, off, cap, rfl, hnc, hcm, hge, hlt, hcells, hfree, hthere⟩
    · have hr := run_append_nil_string (P := P) w t u ty e i (.int .u8 0) ht hu hi hz0 s (by omega) (by simp only [maxLen] at b1; omega) (by rw [hz2]; omega)
      have e1 : (s.data.map fun b => Value.int .u8 b.toNat) = (Lib.strCells s).toArray := by
        apply Array.ext'
        simp [Lib.strCells]
      rw [e1] at hr
      rw [Nat.zero_add]
      have hg := grown 0 (by omega)
      rw [Nat.zero_add] at hg
      exact ⟨_, _, _, hr, hg _ (by simp)⟩
    · by_cases hroom : n + s.size ≤ cap
      · obtain ⟨y, ⟨_, _, hA⟩, hy⟩ := hS.says
        rcases hA with ⟨hv, _⟩ | ⟨g', off', cap', cur, hv, hg, _, _, hs, hcur⟩
        · cases hv
        cases hv
        have hgw := (hy g _ hg).1
        have hst := run_storeCells_at P g (off + n) e (Lib.strCells s) 0 cur w hgw (by rw [hsl]; omega) h1
        simp only [Nat.add_zero] at hst
        refine ⟨some ⟨g, off, none⟩, cap, w.setRow g (cur.toList.take (off + n) ++ Lib.strCells s ++ cur.toList.drop (off + n + (Lib.strCells s).length)).toArray, ?_, ?_⟩
        rotate_left
        · refine hS.turn rfl rfl rfl (by simp) fun a ha h2 => ?_
          obtain ⟨_, _, hA⟩ := ha
          rcases hA with ⟨hv, _⟩ | ⟨g2, off2, cap2, cur2, hv, hg2, _⟩
          · cases hv
          cases hv
          have hcc : cur2 = cur := by have := (h2 g _ hg2).1; rw [hgw] at this; cases this; rfl
          subst hcc
          refine ⟨fun k => if k = g then some (.cells (cur2.toList.take (off + n) ++ Lib.strCells s ++ cur2.toList.drop (off + n + (Lib.strCells s).length)).toArray e (0, 0)) else none,
            ⟨hlen, h1', .inr ⟨g, off, cap, _, rfl, if_pos rfl, hroom, hcm, ?_, ?_⟩⟩, ?_, ?_⟩
          · simp; omega
          · have hd := drop_take_upd cur2.toList xs (Lib.strCells s) off n (by simpa using hcur) (by simpa using hlx) (by have := Array.length_toList (xs := cur2); omega)
            rw [hsl] at hd ⊢
            simpa using hd
          · intro k o ek
            simp only [] at ek
            split at ek
            · rename_i hk; subst hk; cases ek
              exact ⟨setRow_heap w k cur2 _ e (0, 0) hgw, .inl (by rw [hg2]; simp)⟩
            · cases ek
          · intro k hk hak
            refine setRow_other w g k _ ?_
            intro hkg
            rw [hkg, hg2] at hak; cases hak
        · have e1 : (Lib.strCells s).toArray.toList = Lib.strCells s := rfl
          have e2 : (s.data.map fun b => Value.int .u8 b.toNat).toList = Lib.strCells s := by simp [Lib.strCells]
          simp [Builtin.append_, run_underlying ht, run_underlying hu, sizeOf, typeInfo, hi, hz1, Builtin.lenOf, hroom, hf, addr_add]
          first | exact hst | (simp [hst])
      · have hr := Lib.run_append_grow_string (P := P) w t u ty e i (.int .u8 0) ht hu hi hz0 ⟨g, off, none⟩ n cap xs (by rw [hz1]; simpa using hlx) (fun j u hu => by rw [addr_add]; exact hcells j u hu) s (by omega) (by simp only [maxLen] at b1; omega) (by rw [hz2]; exact growslice_fits (by omega) (by omega))
        exact ⟨_, _, _, hr, grown cap (by omega) _ rfl⟩

theorem wp_append_str {o : Oper} {a : Act} {K : Act → World → Prop} {Q : Exit → Act → World → Prop} (E : Elem P t e (.int .u8 0) 1 1) (u : TypeId) (hu : P.underlying u = some .string) (s x : Operand)
    (ho : o.op = .call { callee := .builtin .append, args := #[s, x], argTypes := #[t, u] })
    (v : Value) (b : ByteArray) (n N : Nat) (xs ys : List Value) (hs : a.eval s = v) (hxv : a.eval x = .string b) (hS : Sat B (row e 1 v n xs :: L) w) (hN : N = n + b.size) (hys : ys = xs ++ u8s b.data.toList)
    (b1 : N ≤ maxLen) (b2 : N ≤ 140737488355328)
    (h : ∀ a' c w', Sat B (row e 1 (.slice a' N c) N ys :: L) w' → K (a.put o.dst (.slice a' N c)) w') : o.wp P a w K Q := by
  subst hN; subst hys
  obtain ⟨a', c, w', hr, hS'⟩ := run_append_str E u o.type hu hS b b1 b2
  rw [strCells_u8s] at hS'
  unfold Oper.wp execOp
  simp only [ho, resolve, invoke, builtin, Sem.run_bind, Sem.run_pure, Result.andThen_ok, List.map_toArray, List.map_cons, List.map_nil, hs, hxv, hr]
  exact h a' c w' hS'
theorem wpList_append_str {ops : Array Oper} {rest : List Oper} {o : Oper} {a : Act} {Q : Exit → Act → World → Prop} (hgd : o.guard = none) (E : Elem P t e (.int .u8 0) 1 1) (u : TypeId) (hu : P.underlying u = some .string) (s x : Operand)
    (ho : o.op = .call { callee := .builtin .append, args := #[s, x], argTypes := #[t, u] })
    (v : Value) (b : ByteArray) (n N : Nat) (xs ys : List Value) (hs : a.eval s = v) (hxv : a.eval x = .string b) (hS : Sat B (row e 1 v n xs :: L) w) (hN : N = n + b.size) (hys : ys = xs ++ u8s b.data.toList)
    (b1 : N ≤ maxLen) (b2 : N ≤ 140737488355328)
    (h : ∀ a' c w', Sat B (row e 1 (.slice a' N c) N ys :: L) w' → wpList P ops Q rest (a.put o.dst (.slice a' N c)) w') : wpList P ops Q (o :: rest) a w :=
  wpList_plain hgd fun _ hK => wp_append_str E u hu s x ho v b n N xs ys hs hxv hS hN hys b1 b2 fun a' c w' hS' => hK _ _ (h a' c w' hS')
end
#print axioms wpList_append_str
end Go.Proofs.YtdngjkjoahgelaaGreatDoor

namespace Go.Proofs.YtdngjkjoahgelaaGreatDoor
open Go.RowKit
section
variable {P : Program} {t e : TypeId} {B w w' : World} {L : List HP} {n m : Nat} {v x : Value} {xs news : List Value}

/-- A slice that owns its cells; of the block what is frozen lies behind the cells. -/
def rowm (e : TypeId) (v : Value) (n : Nat) (xs : List Value) : HP := fun h =>
  xs.length = n ∧ (∀ u ∈ xs, u.oneCell' = true) ∧
  ((v = .slice none 0 0 ∧ n = 0) ∨
    ∃ g off cap cur fz, v = .slice (some ⟨g, off, none⟩) n cap ∧ h g = some (.cells cur e fz) ∧ (fz = (0, 0) ∨ cur.size ≤ fz.1) ∧ n ≤ cap ∧ cap ≤ maxLen ∧ off + cap ≤ cur.size ∧ (cur.toList.drop off).take n = xs)

theorem Sat.rowm_len (h : Sat B (rowm e v n xs :: L) w) : xs.length = n := by
  obtain ⟨a, hA, _⟩ := h.says
  exact hA.1
theorem Sat.rowm_one (h : Sat B (rowm e v n xs :: L) w) : ∀ u ∈ xs, u.oneCell' = true := by
  obtain ⟨a, hA, _⟩ := h.says
  exact hA.2.1
theorem Sat.rowm_form (h : Sat B (rowm e v n xs :: L) w) : (v = .slice none 0 0 ∧ n = 0 ∧ xs = []) ∨
    ∃ g off cap, v = .slice (some ⟨g, off, none⟩) n cap ∧ n ≤ cap ∧ cap ≤ maxLen ∧ (∀ j u, xs[j]? = some u → w.cell? ⟨g, off + j, none⟩ = some u) := by
  obtain ⟨a, ⟨hl, h1, hA⟩, h2⟩ := h.says
  rcases hA with ⟨rfl, rfl⟩ | ⟨g, off, cap, cur, fz, rfl, hg, hfz, hn, hm, hs, ht⟩
  · exact .inl ⟨rfl, rfl, List.eq_nil_of_length_eq_zero hl⟩
  · refine .inr ⟨g, off, cap, rfl, hn, hm, fun j u ej => ?_⟩
    rw [cell_of_row w g _ cur _ fz (h2 g _ hg).1]
    rw [← ht, List.getElem?_take] at ej
    split at ej
    · rw [List.getElem?_drop] at ej
      simpa using ej
    · cases ej
theorem rowm_of_row (h : Sat B (row e 1 v n xs :: L) w) : Sat B (rowm e v n xs :: L) w := by
  refine h.head fun y hy => ?_
  obtain ⟨hl, h1, hA⟩ := hy
  refine ⟨by simpa using hl, h1, ?_⟩
  rcases hA with ⟨rfl, rfl⟩ | ⟨g, off, cap, cur, rfl, hg, hn, hm, hs, ht⟩
  · exact .inl ⟨rfl, rfl⟩
  · exact .inr ⟨g, off, cap, cur, (0, 0), rfl, hg, .inl rfl, hn, hm, by simpa using hs, by simpa using ht⟩
/-- '[]byte(s)'. -/
theorem Sat.bytes (h : Sat B L w) (e : TypeId) (s : ByteArray) (hs : s.size ≤ 9223372036854775807) : Sat B (rowm e (.slice (some ⟨w.heap.size, 0, none⟩) s.size (grownCap w s.size 0 e)) s.size (u8s s.data.toList) :: L) (Lib.bytesWorld w e s) := by
  have hge := grownCap_ge w s.size 0 e
  have hcm : grownCap w s.size 0 e ≤ maxLen := grownCap_le_maxLen w s.size 0 e (by unfold maxLen; omega)
  have hsl : s.data.toList.length = s.size := by rw [Array.length_toList]; rfl
  refine (Sat.fact_in (p := True) trivial h).turn rfl rfl ?_ (by rw [Lib.bytesWorld_size]; omega) fun a _ h2 => ⟨fun k => if k = w.heap.size then some (.cells (Lib.bytesCells w e s) e ((Lib.bytesCells w e s).size, (Lib.bytesCells w e s).size + 1)) else none, ⟨by rw [u8s_len, hsl], u8s_one _, .inr ⟨_, 0, _, _, _, rfl, if_pos rfl, .inr (Nat.le_refl _), hge, hcm, ?_, ?_⟩⟩, ?_, ?_⟩
  · exact (Lib.bytesWorld_below w e s).output
  · have : s.data.size = s.size := rfl
    simp [Lib.bytesCells, this]; omega
  · have : s.data.size = s.size := rfl
    simp only [Lib.bytesCells, List.drop_zero, Array.toList_append, Array.toList_map]
    rw [List.take_left' (by rw [List.length_map, hsl])]
    rfl
  · intro k o ek
    simp only [] at ek
    split at ek
    · rename_i hk; subst hk; cases ek; exact ⟨Lib.bytesWorld_at_new w e s, .inr (Nat.le_refl _)⟩
    · cases ek
  · intro k hk _; exact Lib.bytesWorld_at_old w e s k hk

theorem run_storeCells_mark (P : Program) (g o : Nat) (t : TypeId) (fz : Nat × Nat) : ∀ (vs : List Value) (i : Nat) (cur : Array Value) (w : World), w.heap[g]? = some (.cells cur t fz) → (fz = (0, 0) ∨ cur.size ≤ fz.1) → o + i + vs.length ≤ cur.size → (∀ v ∈ vs, v.oneCell' = true) →
    (storeCells ⟨g, o, none⟩ vs i).run P w = .ok () (w.setRow g (cur.toList.take (o + i) ++ vs ++ cur.toList.drop (o + i + vs.length)).toArray)
  | [], i, cur, w, hg, _, _, _ => by
    simp only [storeCells, List.append_nil, List.length_nil, Nat.add_zero, List.take_append_drop, Array.toArray_toList]
    rw [setRow_self w g cur t fz hg]
    rfl
  | v :: rest, i, cur, w, hg, hfz, hl, h1 => by
    have hi : o + i < cur.size := by simp at hl; omega
    have hadd : (⟨g, o, none⟩ : Addr).add i = ⟨g, o + i, none⟩ := by unfold Addr.add; split <;> simp_all
    have hcell : w.cell? ⟨g, o + i, none⟩ = some cur[o + i] := by simp [World.cell?, hg, hi]
    have hfro : w.frozen? ⟨g, o + i, none⟩ = false := by
      obtain ⟨lo, hi'⟩ := fz
      simp only [World.frozen?, hg, Bool.and_eq_false_iff, decide_eq_false_iff_not]
      rcases hfz with hfz | hfz
      · cases hfz; right; omega
      · left; simp only at hfz; omega
    have hst : (store ((⟨g, o, none⟩ : Addr).add i) v).run P w = .ok () (w.setRow g (cur.setIfInBounds (o + i) v)) := by
      rw [hadd, run_store P w _ v _ (h1 v (by simp)), hcell]
      simp [hfro, setCell_eq_setRow w g (o + i) cur t fz v hg]
    have ih := run_storeCells_mark P g o t fz rest (i + 1) (cur.setIfInBounds (o + i) v) (w.setRow g (cur.setIfInBounds (o + i) v)) (setRow_heap w g cur _ t _ hg) (by simpa using hfz) (by simp at hl ⊢; omega) (fun x hx => h1 x (by simp [hx]))
    simp only [storeCells, Sem.run_bind, hst, Result.andThen_ok, ih, setRow_setRow]
    congr 3
    have e := list_seg_step cur.toList (o + i) v rest (by simp at hl ⊢; omega)
    simpa [Array.toList_setIfInBounds, Nat.add_assoc] using e

/-- What a store behind the elements makes of a row. -/
theorem Sat.rowm_put {g off cap : Nat} (hS : Sat B (rowm e (.slice (some ⟨g, off, none⟩) n cap) n xs :: L) w) (h1 : ∀ u ∈ news, u.oneCell' = true) (hm : news.length = m) (hroom : n + m ≤ cap) :
    ∃ w', (storeCells ⟨g, off + n, none⟩ news 0).run P w = .ok () w' ∧ Sat B (rowm e (.slice (some ⟨g, off, none⟩) (n + m) cap) (n + m) (xs ++ news) :: L) w' := by
  obtain ⟨y, ⟨hlx, hone, hA⟩, hy⟩ := hS.says
  rcases hA with ⟨hv, _⟩ | ⟨g', off', cap', cur, fz, hv, hg, hfz, hn, hcm, hs, hcur⟩
  · cases hv
  cases hv
  have hgw := (hy g _ hg).1
  have hst := run_storeCells_mark P g (off + n) e fz news 0 cur w hgw hfz (by omega) h1
  simp only [Nat.add_zero] at hst
  refine ⟨_, hst, hS.turn rfl rfl rfl (by simp) fun a ha h2 => ?_⟩
  obtain ⟨_, _, hA⟩ := ha
  rcases hA with ⟨hv, _⟩ | ⟨g2, off2, cap2, cur2, fz2, hv, hg2, hfz2, _⟩
  · cases hv
  cases hv
  have hcc : cur2 = cur ∧ fz2 = fz := by have := (h2 g _ hg2).1; rw [hgw] at this; cases this; exact ⟨rfl, rfl⟩
  obtain ⟨rfl, rfl⟩ := hcc
  refine ⟨fun k => if k = g then some (.cells (cur2.toList.take (off + n) ++ news ++ cur2.toList.drop (off + n + news.length)).toArray e fz2) else none,
    ⟨by simp [hlx, hm], fun u hu => (List.mem_append.1 hu).elim (hone u) (h1 u), .inr ⟨g, off, cap, _, fz2, rfl, if_pos rfl, ?_, hroom, hcm, ?_, ?_⟩⟩, ?_, ?_⟩
  · rcases hfz2 with hz | hz
    · exact .inl hz
    · refine .inr ?_
      simp; omega
  · simp; omega
  · have hd := drop_take_upd cur2.toList xs news off n hcur hlx (by have := Array.length_toList (xs := cur2); omega)
    rw [hm] at hd ⊢
    simpa using hd
  · intro k o ek
    simp only [] at ek
    split at ek
    · rename_i hk; subst hk; cases ek
      exact ⟨setRow_heap w k cur2 _ e fz2 hgw, .inl (by rw [hg2]; simp)⟩
    · cases ek
  · intro k hk hak
    refine setRow_other w g k _ ?_
    intro hkg
    rw [hkg, hg2] at hak; cases hak

theorem rowm_grown (hS : Sat B (rowm e v n xs :: L) w) (h1 : ∀ u ∈ news, u.oneCell' = true) (hm : news.length = m) (b1 : n + m ≤ maxLen) (old : Nat) (w1 : World)
    (hw1 : w1 = w.drew.alloc (.cells (xs.toArray ++ news.toArray ++ Builtin.zeroCells (Value.int .u8 0).cells (grownCap w (n + m) old e - (n + m))) e)) :
    Sat B (rowm e (.slice (some ⟨w.heap.size, 0, none⟩) (n + m) (grownCap w (n + m) old e)) (n + m) (xs ++ news) :: L) w1 := by
  have hlx := hS.rowm_len
  have hone := hS.rowm_one
  have hz1' : (Value.int IntKind.u8 0).cells.size = 1 := rfl
  have hge := grownCap_ge w (n + m) old e
  have hcm : grownCap w (n + m) old e ≤ maxLen := grownCap_le_maxLen w (n + m) old e b1
  have hlen : (xs ++ news).length = (n + m) * 1 := by rw [List.length_append, hlx, hm]; omega
  have h2 := hS.drop.drew.alloc (.cells (xs.toArray ++ news.toArray ++ Builtin.zeroCells (Value.int .u8 0).cells (grownCap w (n + m) old e - (n + m))) e)
  rw [← hw1] at h2
  refine rowm_of_row (h2.pt_row _ _ _ _ hlen (fun u hu => (List.mem_append.1 hu).elim (hone u) (h1 u)) hge hcm ?_ ?_)
  · simp only [Array.size_append, List.size_toArray, size_zeroCells, hz1', hlx, hm]
    omega
  · simp only [Array.toList_append, List.append_assoc, List.drop_zero]
    rw [← List.append_assoc, ← hlen]
    exact List.take_left

theorem run_append_mrow (E : Elem P t e (.int .u8 0) 1 1) (ty : TypeId) (hS : Sat B (rowm e v n xs :: L) w) (hx : reads w x m news) (hl : news.length = m) (hm : m ≠ 0) (h1 : ∀ u ∈ news, u.oneCell' = true)
    (b1 : n + m ≤ maxLen) (b2 : n + m ≤ 140737488355328) :
    ∃ a c w', (Builtin.append_ #[t, t] ty #[v, x]).run P w = .ok (.slice a (n + m) c) w' ∧ Sat B (rowm e (.slice a (n + m) c) (n + m) (xs ++ news) :: L) w' := by
  obtain ⟨i, hi, hz0, hz1, hz2⟩ := info_parts E.info
  have ht := E.ht
  have hlx := hS.rowm_len
  obtain ⟨xa, xc, rfl, hxn, hxle, hxm, hxc⟩ := hx
  obtain ⟨ad, rfl⟩ : ∃ ad, xa = some ad := by
    cases xa with
    | some ad => exact ⟨ad, rfl⟩
    | none => exact absurd (hxn rfl).1 hm
  have hnews := reads_cells (w := w) (a := some ad) (c := xc) (n := m) (xs := news) ⟨_, _, rfl, hxn, hxle, hxm, hxc⟩ ad rfl
  rcases hS.rowm_form with ⟨rfl, rfl, rfl⟩ | ⟨g, off, cap, rfl, hnc, hcm, hcells⟩
  · have hr := run_append_nil (P := P) w t ty e i (.int .u8 0) ht hi hz0 ad m xc news (by rw [hz1]; simpa using hl) hnews (by omega) (by simp only [maxLen] at b1; omega) (by rw [hz2]; omega)
    have hg := rowm_grown hS h1 hl b1 0 _ rfl
    rw [Nat.zero_add] at hg ⊢
    exact ⟨_, _, _, hr, by simpa using hg⟩
  · by_cases hroom : n + m ≤ cap
    · obtain ⟨w', hst, hS'⟩ := hS.rowm_put (P := P) h1 hl hroom
      have hf := run_firstCells_some (P := P) w 1 m ad m xc news (by simpa using hl) hnews
      refine ⟨_, _, w', ?_, hS'⟩
      simp [Builtin.append_, run_underlying ht, sizeOf, typeInfo, hi, hz1, Builtin.lenOf, hroom, hf, addr_add, hst]
    · have hr := run_append_grow (P := P) w t ty e i (.int .u8 0) ht hi hz0 ⟨g, off, none⟩ n cap xs (by rw [hz1]; simpa using hlx) (fun j u hu => by rw [addr_add]; exact hcells j u hu) ad m xc news (by rw [hz1]; simpa using hl) hnews (by omega) (by simp only [maxLen] at b1; omega) (by rw [hz2]; exact growslice_fits (by omega) (by omega))
      exact ⟨_, _, _, hr, rowm_grown hS h1 hl b1 cap _ rfl⟩

theorem wp_append_mrow {o : Oper} {a : Act} {K : Act → World → Prop} {Q : Exit → Act → World → Prop} (E : Elem P t e (.int .u8 0) 1 1) (s x : Operand)
    (ho : o.op = .call { callee := .builtin .append, args := #[s, x], argTypes := #[t, t] })
    (v vx : Value) (n m N : Nat) (xs news ys : List Value) (hs : a.eval s = v) (hxv : a.eval x = vx) (hS : Sat B (rowm e v n xs :: L) w) (hx : reads w vx m news) (hl : news.length = m) (hm : m ≠ 0) (h1 : ∀ u ∈ news, u.oneCell' = true) (hN : N = n + m) (hys : ys = xs ++ news)
    (b1 : N ≤ maxLen) (b2 : N ≤ 140737488355328)
    (h : ∀ a' c w', Sat B (rowm e (.slice a' N c) N ys :: L) w' → K (a.put o.dst (.slice a' N c)) w') : o.wp P a w K Q := by
  subst hN; subst hys
  obtain ⟨a', c, w', hr, hS'⟩ := run_append_mrow E o.type hS hx hl hm h1 b1 b2
  unfold Oper.wp execOp
  simp only [ho, resolve, invoke, builtin, Sem.run_bind, Sem.run_pure, Result.andThen_ok, List.map_toArray, List.map_cons, List.map_nil, hs, hxv, hr]
  exact h a' c w' hS'
theorem wpList_append_mrow {ops : Array Oper} {rest : List Oper} {o : Oper} {a : Act} {Q : Exit → Act → World → Prop} (hgd : o.guard = none) (E : Elem P t e (.int .u8 0) 1 1) (s x : Operand)
    (ho : o.op = .call { callee := .builtin .append, args := #[s, x], argTypes := #[t, t] })
    (v vx : Value) (n m N : Nat) (xs news ys : List Value) (hs : a.eval s = v) (hxv : a.eval x = vx) (hS : Sat B (rowm e v n xs :: L) w) (hx : reads w vx m news) (hl : news.length = m) (hm : m ≠ 0) (h1 : ∀ u ∈ news, u.oneCell' = true) (hN : N = n + m) (hys : ys = xs ++ news)
    (b1 : N ≤ maxLen) (b2 : N ≤ 140737488355328)
    (h : ∀ a' c w', Sat B (rowm e (.slice a' N c) N ys :: L) w' → wpList P ops Q rest (a.put o.dst (.slice a' N c)) w') : wpList P ops Q (o :: rest) a w :=
  wpList_plain hgd fun _ hK => wp_append_mrow E s x ho v vx n m N xs news ys hs hxv hS hx hl hm h1 hN hys b1 b2 fun a' c w' hS' => hK _ _ (h a' c w' hS')
end
#print axioms wpList_append_mrow
end Go.Proofs.YtdngjkjoahgelaaGreatDoor
