/-
  append, copy and make in the small separation logic of XSl: laws at an operation, over any program.
-/
import Derived.Test.YtdngjkjoahgelaaGreatDoorSl
namespace Go.Proofs.YtdngjkjoahgelaaGreatDoor
open Go.RowKit

/-- What the table says of a slice type and its element type. -/
structure Elem (P : Program) (t e : TypeId) (z : Value) (size bytes : Nat) : Prop where
  ht : P.underlying t = some (.slice e)
  info : (P.info? e).map (fun i => (i.zero, i.size, i.bytes)) = some (some z, size, bytes)
  sz : z.cells.size = size
  pos : 0 < size
  one : ∀ u ∈ z.cells.toList, u.oneCell' = true

section
variable {P : Program} {t e : TypeId} {z : Value} {size bytes : Nat} {B w : World} {L : List HP} {n m : Nat} {v x : Value} {xs news : List Value}

theorem addr_add (g off j : Nat) : (⟨g, off, none⟩ : Addr).add j = ⟨g, off + j, none⟩ := by unfold Addr.add; split <;> simp_all

theorem reads_cells {w : World} {a : Option Addr} {c : Nat} (h : reads w (.slice a n c) n xs) : ∀ b, a = some b → ∀ j u, xs[j]? = some u → w.cell? (b.add j) = some u := by
  intro b hb j u hu
  obtain ⟨a', c', hv, _, _, _, hc⟩ := h
  cases hv
  obtain ⟨g, off, h1, h2⟩ := hc j u hu
  rw [h1] at hb; cases hb
  rw [addr_add]; exact h2

theorem drop_take_upd (cur xs news : List Value) (off k : Nat) (hx : (cur.drop off).take k = xs) (hk : xs.length = k) (hl : off + k + news.length ≤ cur.length) :
    ((cur.take (off + k) ++ news ++ cur.drop (off + k + news.length)).drop off).take (k + news.length) = xs ++ news := by
  have h1 : cur.take (off + k) = cur.take off ++ xs := by rw [List.take_add, hx]
  rw [h1]
  have hlen : (cur.take off).length = off := by rw [List.length_take]; omega
  rw [List.append_assoc, List.append_assoc, List.drop_append_of_le_length (by omega), List.drop_of_length_le (by omega), List.nil_append, ← List.append_assoc]
  rw [List.take_append_of_le_length (by simp; omega), List.take_of_length_le (by simp; omega)]

theorem run_append_row (E : Elem P t e z size bytes) (ty : TypeId) (hS : Sat B (row e size v n xs :: L) w) (hx : reads w x m news) (hl : news.length = m * size) (h1 : ∀ u ∈ news, u.oneCell' = true)
    (b1 : n + m ≤ maxLen) (b2 : (n + m) * bytes ≤ 140737488355328) :
    ∃ a c w', (Builtin.append_ #[t, t] ty #[v, x]).run P w = .ok (.slice a (n + m) c) w' ∧ Sat B (row e size (.slice a (n + m) c) (n + m) (xs ++ news) :: L) w' := by
  obtain ⟨i, hi, hz0, hz1, hz2⟩ := info_parts E.info
  have ht := E.ht
  have hsz := E.sz
  have hpos := E.pos
  subst hz1; subst hz2
  have hone := hS.row_one
  have hlx := hS.row_len
  obtain ⟨xa, xc, rfl, hxn, hxle, hxm, hxc⟩ := hx
  by_cases hm : m = 0
  · subst hm
    obtain rfl : news = [] := List.eq_nil_of_length_eq_zero (by simpa using hl)
    simp only [List.append_nil, Nat.add_zero]
    rcases hS.row_form with ⟨rfl, rfl, rfl⟩ | ⟨g, off, cap, rfl, hn, _⟩
    · exact ⟨none, 0, w, by cases xa <;> simp [Builtin.append_, run_underlying ht, sizeOf, typeInfo, hi, Builtin.lenOf, Builtin.firstCells, loadCells, loadCellsFrom], hS⟩
    · exact ⟨some ⟨g, off, none⟩, cap, w, by cases xa <;> simp [Builtin.append_, run_underlying ht, sizeOf, typeInfo, hi, Builtin.lenOf, Builtin.firstCells, hn, storeCells, loadCells, loadCellsFrom], hS⟩
  · obtain ⟨ad, rfl⟩ : ∃ ad, xa = some ad := by
      cases xa with
      | some ad => exact ⟨ad, rfl⟩
      | none => exact absurd (hxn rfl).1 hm
    have hnews := reads_cells (w := w) (a := some ad) (c := xc) (n := m) (xs := news) ⟨_, _, rfl, hxn, hxle, hxm, hxc⟩ ad rfl
    have hlen : (xs ++ news).length = (n + m) * i.size := by rw [List.length_append, hlx, hl, Nat.add_mul]
    have h1' : ∀ u ∈ xs ++ news, u.oneCell' = true := fun u hu => (List.mem_append.1 hu).elim (hone u) (h1 u)
    -- what has grown
    have grown : ∀ (old : Nat), old < n + m → ∀ w1 : World, w1 = w.drew.alloc (.cells (xs.toArray ++ news.toArray ++ Builtin.zeroCells z.cells (grownCap w (n + m) old e - (n + m))) e) →
        Sat B (row e i.size (.slice (some ⟨w.heap.size, 0, none⟩) (n + m) (grownCap w (n + m) old e)) (n + m) (xs ++ news) :: L) w1 := by
      intro old ho w1 hw1
      have hge := grownCap_ge w (n + m) old e
      have hcm : grownCap w (n + m) old e ≤ maxLen := grownCap_le_maxLen w (n + m) old e b1
      have h2 := hS.drop.drew.alloc (.cells (xs.toArray ++ news.toArray ++ Builtin.zeroCells z.cells (grownCap w (n + m) old e - (n + m))) e)
      rw [← hw1] at h2
      refine h2.pt_row _ _ _ _ hlen h1' hge hcm ?_ ?_
      · simp only [Array.size_append, List.size_toArray, size_zeroCells, hsz, hlx, hl, ← Nat.add_mul]
        rw [Nat.zero_add]
        exact Nat.le_of_eq (by congr 1; omega)
      · simp only [Array.toList_append, List.append_assoc, List.drop_zero]
        rw [← List.append_assoc, ← hlen]
        exact List.take_left
    rcases hS.row_form with ⟨rfl, rfl, rfl⟩ | ⟨g, off, cap, rfl, hn, hcm, hge, hlt, hcells, hfree, hthere⟩
    · have hr : (Builtin.append_ #[t, t] ty #[.slice none 0 0, .slice (some ad) m xc]).run P w =
          .ok (.slice (some ⟨w.heap.size, 0, none⟩) (0 + m) (grownCap w (0 + m) 0 e)) (w.drew.alloc (.cells (([] : List Value).toArray ++ news.toArray ++ Builtin.zeroCells z.cells (grownCap w (0 + m) 0 e - (0 + m))) e)) := by
        have h63 : ((0 + m : Nat) : Int) ≤ 9223372036854775807 := by simp only [maxLen] at b1; omega
        rw [Nat.zero_add] at h63 b2 ⊢
        rw [show ([] : List Value).toArray ++ news.toArray = news.toArray from by simp]
        exact run_append_nil w t ty e i z ht hi hz0 ad m xc news hl hnews (by omega) h63 (by omega)
      exact ⟨_, _, _, hr, grown 0 (by omega) _ rfl⟩
    · by_cases hroom : n + m ≤ cap
      · obtain ⟨y, ⟨_, _, hA⟩, hy⟩ := hS.says
        rcases hA with ⟨hv, _⟩ | ⟨g', off', cap', cur, hv, hg, _, _, hs, hcur⟩
        · cases hv
        cases hv
        have hgw := (hy g _ hg).1
        have hmul : n * i.size + m * i.size ≤ cap * i.size := by rw [← Nat.add_mul]; exact Nat.mul_le_mul_right _ hroom
        have hf := run_firstCells_some (P := P) w i.size m ad m xc news hl hnews
        have hst := run_storeCells_at P g (off + n * i.size) e news 0 cur w hgw (by omega) h1
        simp only [Nat.add_zero] at hst
        refine ⟨some ⟨g, off, none⟩, cap, w.setRow g (cur.toList.take (off + n * i.size) ++ news ++ cur.toList.drop (off + n * i.size + news.length)).toArray, ?_, ?_⟩
        rotate_left
        · refine hS.turn rfl rfl rfl (by simp) fun a ha h2 => ?_
          obtain ⟨_, _, hA⟩ := ha
          rcases hA with ⟨hv, _⟩ | ⟨g2, off2, cap2, cur2, hv, hg2, _⟩
          · cases hv
          cases hv
          have hcc : cur2 = cur := by have := (h2 g _ hg2).1; rw [hgw] at this; cases this; rfl
          subst hcc
          refine ⟨fun k => if k = g then some (.cells (cur2.toList.take (off + n * i.size) ++ news ++ cur2.toList.drop (off + n * i.size + news.length)).toArray e (0, 0)) else none,
            ⟨hlen, h1', .inr ⟨g, off, cap, _, rfl, if_pos rfl, hroom, hcm, ?_, ?_⟩⟩, ?_, ?_⟩
          · simp; omega
          · rw [Nat.add_mul, ← hl]
            exact drop_take_upd cur2.toList xs news off (n * i.size) hcur hlx (by have := Array.length_toList (xs := cur2); omega)
          · intro k o ek
            simp only [] at ek
            split at ek
            · rename_i hk; subst hk; cases ek
              exact ⟨setRow_heap w k cur2 _ e (0, 0) hgw, .inl (by rw [hg2]; simp)⟩
            · cases ek
          · intro k hk hak
            refine setRow_other w g k _ ?_
            intro hkg
            rw [hkg, hg2] at hak; cases hak
        · simp [Builtin.append_, run_underlying ht, sizeOf, typeInfo, hi, Builtin.lenOf, hroom, hf, addr_add, hst]
      · have hr := run_append_grow (P := P) w t ty e i z ht hi hz0 ⟨g, off, none⟩ n cap xs hlx (fun j u hu => by rw [addr_add]; exact hcells j u hu) ad m xc news hl hnews (by omega) (by simp only [maxLen] at b1; omega) (growslice_fits (by omega) b2)
        exact ⟨_, _, _, hr, grown cap (by omega) _ rfl⟩

/-- 'append' at the operation. -/
theorem wp_append_row {o : Oper} {a : Act} {K : Act → World → Prop} {Q : Exit → Act → World → Prop} (E : Elem P t e z size bytes) (s x : Operand)
    (ho : o.op = .call { callee := .builtin .append, args := #[s, x], argTypes := #[t, t] })
    (v vx : Value) (n m : Nat) (xs news : List Value) (hs : a.eval s = v) (hxv : a.eval x = vx) (hS : Sat B (row e size v n xs :: L) w) (hx : reads w vx m news) (hl : news.length = m * size) (h1 : ∀ u ∈ news, u.oneCell' = true)
    (b1 : n + m ≤ maxLen) (b2 : (n + m) * bytes ≤ 140737488355328)
    (h : ∀ a' c w', Sat B (row e size (.slice a' (n + m) c) (n + m) (xs ++ news) :: L) w' → K (a.put o.dst (.slice a' (n + m) c)) w') : o.wp P a w K Q := by
  obtain ⟨a', c, w', hr, hS'⟩ := run_append_row E o.type hS hx hl h1 b1 b2
  unfold Oper.wp execOp
  simp only [ho, resolve, invoke, builtin, Sem.run_bind, Sem.run_pure, Result.andThen_ok, List.map_toArray, List.map_cons, List.map_nil, hs, hxv, hr]
  exact h a' c w' hS'
theorem wpList_append_row {ops : Array Oper} {rest : List Oper} {o : Oper} {a : Act} {Q : Exit → Act → World → Prop} (hgd : o.guard = none) (E : Elem P t e z size bytes) (s x : Operand)
    (ho : o.op = .call { callee := .builtin .append, args := #[s, x], argTypes := #[t, t] })
    (v vx : Value) (n m : Nat) (xs news : List Value) (hs : a.eval s = v) (hxv : a.eval x = vx) (hS : Sat B (row e size v n xs :: L) w) (hx : reads w vx m news) (hl : news.length = m * size) (h1 : ∀ u ∈ news, u.oneCell' = true)
    (b1 : n + m ≤ maxLen) (b2 : (n + m) * bytes ≤ 140737488355328)
    (h : ∀ a' c w', Sat B (row e size (.slice a' (n + m) c) (n + m) (xs ++ news) :: L) w' → wpList P ops Q rest (a.put o.dst (.slice a' (n + m) c)) w') : wpList P ops Q (o :: rest) a w :=
  wpList_plain hgd fun _ hK => wp_append_row E s x ho v vx n m xs news hs hxv hS hx hl h1 b1 b2 fun a' c w' hS' => hK _ _ (h a' c w' hS')
theorem step_append_row {ops : Array Oper} {o : Oper} {a : Act} {K : Act → World → Prop} {Q : Exit → Act → World → Prop} {F : Prop} (hgd : o.guard = none) (E : Elem P t e z size bytes) (s x : Operand)
    (ho : o.op = .call { callee := .builtin .append, args := #[s, x], argTypes := #[t, t] })
    (v vx : Value) (n m : Nat) (xs news : List Value) (hs : a.eval s = v) (hxv : a.eval x = vx) (hS : Sat B (row e size v n xs :: L) w) (hx : reads w vx m news) (hl : news.length = m * size) (h1 : ∀ u ∈ news, u.oneCell' = true)
    (b1 : n + m ≤ maxLen) (b2 : (n + m) * bytes ≤ 140737488355328)
    (h : ∀ a' c w', Sat B (row e size (.slice a' (n + m) c) (n + m) (xs ++ news) :: L) w' → K (a.put o.dst (.slice a' (n + m) c)) w') :
    if Region.wanted o (yielded ops a.tmps) = true then Oper.wp P o a w K Q else F := by
  have hw : Region.wanted o (yielded ops a.tmps) = true := by simp [Region.wanted, hgd]
  rw [if_pos hw]
  exact wp_append_row E s x ho v vx n m xs news hs hxv hS hx hl h1 b1 b2 h

/-- 'copy' into a row: its first elements have become the source's. -/
theorem run_copy_rows (E : Elem P t e z size bytes) (ty sT : TypeId) (hS : Sat B (row e size v n xs :: L) w) (hx : reads w x m news) (hl : news.length = m * size) (h1 : ∀ u ∈ news, u.oneCell' = true) (hmn : m ≤ n) :
    ∃ w', (Builtin.copy_ #[t, sT] ty #[v, x]).run P w = .ok (goInt m) w' ∧ Sat B (row e size v n (news ++ xs.drop (m * size)) :: L) w' := by
  obtain ⟨i, hi, hz0, hz1, hz2⟩ := info_parts E.info
  have ht := E.ht
  subst hz1; subst hz2
  have hone := hS.row_one
  have hlx := hS.row_len
  have hnm : Nat.min m n = m := Nat.min_eq_left hmn
  obtain ⟨xa, xc, rfl, hxn, hxle, hxm, hxc⟩ := hx
  by_cases hm : m = 0
  · subst hm
    obtain rfl : news = [] := List.eq_nil_of_length_eq_zero (by simpa using hl)
    refine ⟨w, ?_, by simpa using hS⟩
    rcases hS.row_form with ⟨rfl, rfl, rfl⟩ | ⟨g, off, cap, rfl, hn, _⟩ <;> cases xa <;>
      simp [Builtin.copy_, run_underlying ht, sizeOf, typeInfo, hi, Builtin.lenOf, Builtin.firstCells, hnm, storeCells, loadCells, loadCellsFrom]
  · obtain ⟨ad, rfl⟩ : ∃ ad, xa = some ad := by
      cases xa with
      | some ad => exact ⟨ad, rfl⟩
      | none => exact absurd (hxn rfl).1 hm
    have hnews := reads_cells (w := w) (a := some ad) (c := xc) (n := m) (xs := news) ⟨_, _, rfl, hxn, hxle, hxm, hxc⟩ ad rfl
    have hmul : m * i.size ≤ n * i.size := Nat.mul_le_mul_right _ hmn
    obtain ⟨y, ⟨_, _, hA⟩, hy⟩ := hS.says
    rcases hA with ⟨hv, h0⟩ | ⟨g, off, cap, cur, hv, hg, hn, hcm, hs, hcur⟩
    · omega
    subst hv
    have hgw := (hy g _ hg).1
    have hcap : n * i.size ≤ cap * i.size := Nat.mul_le_mul_right _ hn
    have hf := run_firstCells_some (P := P) w i.size m ad m xc news hl hnews
    have hst := run_storeCells_at P g off e news 0 cur w hgw (by omega) h1
    simp only [Nat.add_zero] at hst
    refine ⟨w.setRow g (cur.toList.take off ++ news ++ cur.toList.drop (off + news.length)).toArray, ?_, ?_⟩
    · simp [Builtin.copy_, run_underlying ht, sizeOf, typeInfo, hi, Builtin.lenOf, hnm, Builtin.firstCells]
      simp only [Builtin.firstCells] at hf
      simp [hf, hst]
    · refine hS.turn rfl rfl rfl (by simp) fun a ha h2 => ?_
      obtain ⟨_, _, hA⟩ := ha
      rcases hA with ⟨hv, _⟩ | ⟨g2, off2, cap2, cur2, hv, hg2, _⟩
      · cases hv
      cases hv
      have hcc : cur2 = cur := by have := (h2 g _ hg2).1; rw [hgw] at this; cases this; rfl
      subst hcc
      refine ⟨fun k => if k = g then some (.cells (cur2.toList.take off ++ news ++ cur2.toList.drop (off + news.length)).toArray e (0, 0)) else none,
        ⟨?_, ?_, .inr ⟨g, off, cap, _, rfl, if_pos rfl, hn, hcm, ?_, ?_⟩⟩, ?_, ?_⟩
      · simp [hl, hlx]; omega
      · intro u hu
        rcases List.mem_append.1 hu with hu | hu
        · exact h1 u hu
        · exact hone u (List.mem_of_mem_drop hu)
      · simp; omega
      · have hlen : (cur2.toList.take off).length = off := by rw [List.length_take, Array.length_toList]; omega
        have hsz2 : off + cap * i.size ≤ cur2.toList.length := by rw [Array.length_toList]; exact hs
        rw [← hcur, List.append_assoc, List.drop_append_of_le_length (by omega), List.drop_of_length_le (by omega), List.nil_append]
        rw [List.take_append, List.take_of_length_le (by omega), List.drop_take, List.drop_drop, hl]
      · intro k o ek
        simp only [] at ek
        split at ek
        · rename_i hk; subst hk; cases ek
          exact ⟨setRow_heap w k cur2 _ e (0, 0) hgw, .inl (by rw [hg2]; simp)⟩
        · cases ek
      · intro k hk hak
        refine setRow_other w g k _ ?_
        intro hkg
        rw [hkg, hg2] at hak; cases hak
theorem wp_copy_row {o : Oper} {a : Act} {K : Act → World → Prop} {Q : Exit → Act → World → Prop} (E : Elem P t e z size bytes) (s x : Operand) (sT : TypeId)
    (ho : o.op = .call { callee := .builtin .copy, args := #[s, x], argTypes := #[t, sT] })
    (v vx : Value) (n m : Nat) (xs news : List Value) (hs : a.eval s = v) (hxv : a.eval x = vx) (hS : Sat B (row e size v n xs :: L) w) (hx : reads w vx m news) (hl : news.length = m * size) (h1 : ∀ u ∈ news, u.oneCell' = true) (hmn : m ≤ n)
    (h : ∀ w', Sat B (row e size v n (news ++ xs.drop (m * size)) :: L) w' → K (a.put o.dst (goInt m)) w') : o.wp P a w K Q := by
  obtain ⟨w', hr, hS'⟩ := run_copy_rows E o.type sT hS hx hl h1 hmn
  unfold Oper.wp execOp
  simp only [ho, resolve, invoke, builtin, Sem.run_bind, Sem.run_pure, Result.andThen_ok, List.map_toArray, List.map_cons, List.map_nil, hs, hxv, hr]
  exact h w' hS'
theorem wpList_copy_row {ops : Array Oper} {rest : List Oper} {o : Oper} {a : Act} {Q : Exit → Act → World → Prop} (hgd : o.guard = none) (E : Elem P t e z size bytes) (s x : Operand) (sT : TypeId)
    (ho : o.op = .call { callee := .builtin .copy, args := #[s, x], argTypes := #[t, sT] })
    (v vx : Value) (n m : Nat) (xs news : List Value) (hs : a.eval s = v) (hxv : a.eval x = vx) (hS : Sat B (row e size v n xs :: L) w) (hx : reads w vx m news) (hl : news.length = m * size) (h1 : ∀ u ∈ news, u.oneCell' = true) (hmn : m ≤ n)
    (h : ∀ w', Sat B (row e size v n (news ++ xs.drop (m * size)) :: L) w' → wpList P ops Q rest (a.put o.dst (goInt m)) w') : wpList P ops Q (o :: rest) a w :=
  wpList_plain hgd fun _ hK => wp_copy_row E s x sT ho v vx n m xs news hs hxv hS hx hl h1 hmn fun w' hS' => hK _ _ (h w' hS')

/-- 'make' of a slice. -/
theorem run_make_row (E : Elem P t e z size bytes) (hS : Sat B L w) (k c : Nat) (hk : k ≤ c) (hb : bytes * c ≤ 281474976710656) (h63 : c ≤ maxLen) :
    (Instr.makeSlice t (.int .i64 (k : Int)) (.int .i64 (c : Int))).run P w = .ok (.slice (some ⟨w.heap.size, 0, none⟩) k c) (w.alloc (.cells (madeCells z.cells (c * size)) e)) ∧
    Sat B (row e size (.slice (some ⟨w.heap.size, 0, none⟩) k c) k (List.replicate k z.cells.toList).flatten :: L) (w.alloc (.cells (madeCells z.cells (c * size)) e)) := by
  obtain ⟨i, hi, hz0, hz1, hz2⟩ := info_parts E.info
  have hsz := E.sz
  have hpos := E.pos
  subst hz1; subst hz2
  have hmk : ∀ j, (madeCells z.cells (j * i.size)).toList = (List.replicate j z.cells.toList).flatten := by
    intro j
    induction j with
    | zero => simp [madeCells]
    | succ j ih =>
      rw [List.replicate_succ', List.flatten_append, ← ih]
      simp only [List.flatten_cons, List.flatten_nil, List.append_nil]
      refine List.ext_getElem (by simp [madeCells, hsz, Nat.add_mul]) fun q h1 h2 => ?_
      simp only [madeCells, Array.toList_map, Array.toList_range, List.getElem_map, List.getElem_range]
      by_cases hq : q < j * i.size
      · rw [List.getElem_append_left (by simpa using hq)]
        simp
      · rw [List.getElem_append_right (by simpa using hq)]
        simp only [List.length_map, List.length_range, Array.getElem_toList]
        simp only [madeCells, Array.toList_map, Array.toList_range, List.length_map, List.length_range, Nat.add_mul, Nat.one_mul] at h1
        have : q % z.cells.size = q - j * i.size := by
          rw [hsz]
          have : q = (q - j * i.size) + j * i.size := by omega
          rw [this, Nat.add_mul_mod_self_right, Nat.mod_eq_of_lt (by omega)]; omega
        rw [this]
        rw [getElem!_pos z.cells _ (by omega)]
  refine ⟨?_, ?_⟩
  · have := run_make (P := P) w t e i z E.ht hi hz0 .i64 .i64 (k : Int) (c : Int) (by omega) (by omega) (by rw [← Int.natCast_mul]; omega) (by simp only [maxLen] at h63; omega)
    simpa using this
  · refine (hS.alloc _).pt_row _ _ _ _ ?_ ?_ hk h63 (by simp [size_madeCells]) ?_
    · rw [← hmk]; simp [size_madeCells]
    · intro u hu
      obtain ⟨l, hl, hu⟩ := List.mem_flatten.1 hu
      exact E.one u (by rw [(List.mem_replicate.1 hl).2] at hu; exact hu)
    · rw [hmk, List.drop_zero]
      have : c = k + (c - k) := by omega
      rw [this, ← List.replicate_append_replicate, List.flatten_append]
      refine List.take_left' ?_
      simp [hsz]
theorem wp_make_row {o : Oper} {a : Act} {K : Act → World → Prop} {Q : Exit → Act → World → Prop} (E : Elem P t e z size bytes) (x y : Operand)
    (ho : o.op = .makeSlice t x y) (k c : Nat) (hxv : a.eval x = .int .i64 (k : Int)) (hyv : a.eval y = .int .i64 (c : Int)) (hS : Sat B L w) (hk : k ≤ c) (hb : bytes * c ≤ 281474976710656) (h63 : c ≤ maxLen)
    (h : ∀ a' w', Sat B (row e size (.slice a' k c) k (List.replicate k z.cells.toList).flatten :: L) w' → K (a.put o.dst (.slice a' k c)) w') : o.wp P a w K Q := by
  obtain ⟨hr, hS'⟩ := run_make_row E hS k c hk hb h63
  unfold Oper.wp execOp
  simp only [ho, Sem.run_bind, Sem.run_pure, Result.andThen_ok, hxv, hyv, hr]
  exact h _ _ hS'
theorem wpList_make_row {ops : Array Oper} {rest : List Oper} {o : Oper} {a : Act} {Q : Exit → Act → World → Prop} (hgd : o.guard = none) (E : Elem P t e z size bytes) (x y : Operand)
    (ho : o.op = .makeSlice t x y) (k c : Nat) (hxv : a.eval x = .int .i64 (k : Int)) (hyv : a.eval y = .int .i64 (c : Int)) (hS : Sat B L w) (hk : k ≤ c) (hb : bytes * c ≤ 281474976710656) (h63 : c ≤ maxLen)
    (h : ∀ a' w', Sat B (row e size (.slice a' k c) k (List.replicate k z.cells.toList).flatten :: L) w' → wpList P ops Q rest (a.put o.dst (.slice a' k c)) w') : wpList P ops Q (o :: rest) a w :=
  wpList_plain hgd fun _ hK => wp_make_row E x y ho k c hxv hyv hS hk hb h63 fun a' w' hS' => hK _ _ (h a' w' hS')

/-- Bytes as a text. -/
theorem run_bytes_string {src dst e : TypeId} {bs : List UInt8} (hs : P.underlying src = some (.slice e)) (he : P.underlying e = some (.int .u8)) (hd : P.underlying dst = some .string) (hr : reads w v n (u8s bs)) (hn : bs.length = n) :
    (convert src dst v).run P w = .ok (.string ⟨bs.toArray⟩) w := by
  obtain ⟨a, c, rfl, h0, h1, h2, h3⟩ := hr
  cases a with
  | none =>
    obtain ⟨rfl, rfl⟩ := h0 rfl
    rw [List.eq_nil_of_length_eq_zero hn]
    exact run_convert_bytes_nil w src e hs he 0 0 dst hd
  | some ad =>
    by_cases h4 : bs = []
    · subst h4
      simp at hn; subst hn
      have := run_convert_bytes_string w src dst e (some ad) 0 c hs he hd
      rw [this, run_bytesToString w ad 0 c [] (by simp [loadCells, loadCellsFrom])]
      rfl
    · have hpos : 0 < bs.length := List.length_pos_iff.2 h4
      obtain ⟨b, off, hb, _⟩ := h3 0 _ (by rw [List.getElem?_eq_getElem (by simpa [u8s] using hpos)])
      cases hb
      have := run_convert_bytes_arg (P := P) w src e hs he b off n c (bs.map fun b => (b.toNat : Int)) (by simpa using hn) (fun i hi => by
        obtain ⟨b', o', hb', hc'⟩ := h3 i (.int .u8 (bs[i]'(by omega)).toNat) (by simp [u8s, List.getElem?_eq_getElem (show i < bs.length by omega)])
        cases hb'
        rw [hc']
        simp [List.getD, List.getElem?_eq_getElem (show i < bs.length by omega)]) dst hd
      rw [this]
      simp [strOfNums, Function.comp_def]
theorem wp_bytes_string {o : Oper} {a : Act} {K : Act → World → Prop} {Q : Exit → Act → World → Prop} {src dst e : TypeId} (x : Operand) (ho : o.op = .convert src dst x)
    (hs : P.underlying src = some (.slice e)) (he : P.underlying e = some (.int .u8)) (hd : P.underlying dst = some .string) (vx : Value) (n : Nat) (bs : List UInt8) (hxv : a.eval x = vx) (hr : reads w vx n (u8s bs)) (hn : bs.length = n)
    (h : K (a.put o.dst (.string ⟨bs.toArray⟩)) w) : o.wp P a w K Q := by
  have hr' := run_bytes_string hs he hd hr hn
  unfold Oper.wp execOp
  simp only [ho, Sem.run_bind, Sem.run_pure, Result.andThen_ok, hxv, hr']
  exact h
theorem wpList_bytes_string {ops : Array Oper} {rest : List Oper} {o : Oper} {a : Act} {Q : Exit → Act → World → Prop} (hgd : o.guard = none) {src dst e : TypeId} (x : Operand) (ho : o.op = .convert src dst x)
    (hs : P.underlying src = some (.slice e)) (he : P.underlying e = some (.int .u8)) (hd : P.underlying dst = some .string) (vx : Value) (n : Nat) (bs : List UInt8) (hxv : a.eval x = vx) (hr : reads w vx n (u8s bs)) (hn : bs.length = n)
    (h : wpList P ops Q rest (a.put o.dst (.string ⟨bs.toArray⟩)) w) : wpList P ops Q (o :: rest) a w :=
  wpList_plain hgd fun _ hK => wp_bytes_string x ho hs he hd vx n bs hxv hr hn (hK _ _ h)
end
#print axioms wp_append_row
#print axioms wp_copy_row
#print axioms wp_make_row
end Go.Proofs.YtdngjkjoahgelaaGreatDoor
