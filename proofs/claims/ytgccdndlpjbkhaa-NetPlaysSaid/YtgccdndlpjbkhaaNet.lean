/-
  The packets under way: contracts of package net's functions.
-/
import Derived.Test.YtgccdndlpjbkhaaRows
import Derived.Test.YtgccdndlpjbkhaaSlOps
namespace Go.Proofs.Ytgccdndlpjbkhaa
open Go.RowKit

abbrev Pk := Int × Int × ByteArray
def pcells (p : Pk) : List Value := [.int .i64 p.1, .int .i64 p.2.1, .string p.2.2]
def pks (ps : List Pk) : List Value := ps.flatMap pcells
theorem pks_len (ps : List Pk) : (pks ps).length = ps.length * 3 := by
  induction ps with
  | nil => rfl
  | cons p ps ih => simp only [pks, List.flatMap_cons, List.length_append, List.length_cons, Nat.add_mul] at *; rw [ih]; simp [pcells]; omega
theorem pks_append (ps qs : List Pk) : pks (ps ++ qs) = pks ps ++ pks qs := by simp [pks]
theorem pks_one (ps : List Pk) : ∀ u ∈ pks ps, u.oneCell' = true := by
  intro u hu
  obtain ⟨p, _, hp⟩ := List.mem_flatMap.1 hu
  simp only [pcells, List.mem_cons, List.not_mem_nil, or_false] at hp
  rcases hp with rfl | rfl | rfl <;> rfl
theorem pks_drop (ps : List Pk) : ∀ k, (pks ps).drop (k * 3) = pks (ps.drop k) := by
  induction ps with
  | nil => intro k; simp [pks]
  | cons p ps ih =>
    intro k
    cases k with
    | zero => simp
    | succ k =>
      have : (k + 1) * 3 = k * 3 + 3 := by omega
      rw [this, List.drop_succ_cons, ← ih, Nat.add_comm, ← List.drop_drop]
      rfl
theorem pks_take (ps : List Pk) : ∀ k, (pks ps).take (k * 3) = pks (ps.take k) := by
  induction ps with
  | nil => intro k; simp [pks]
  | cons p ps ih =>
    intro k
    cases k with
    | zero => simp [pks]
    | succ k =>
      have : (k + 1) * 3 = 3 + k * 3 := by omega
      rw [this, List.take_succ_cons]
      simp only [pks, List.flatMap_cons]
      rw [List.take_append, List.take_of_length_le (by simp [pcells])]
      congr 1
      have e : 3 + k * 3 - (pcells p).length = k * 3 := by simp [pcells]
      rw [e]
      exact ih k
theorem pks_get (ps : List Pk) (k : Nat) (h : k < ps.length) : (pks ps)[k * 3]? = some (.int .i64 ps[k].1) ∧ (pks ps)[k * 3 + 1]? = some (.int .i64 ps[k].2.1) ∧ (pks ps)[k * 3 + 2]? = some (.string ps[k].2.2) := by
  have h1 : pks (ps.drop k) = pcells ps[k] ++ pks (ps.drop (k + 1)) := by rw [List.drop_eq_getElem_cons h]; rfl
  have h2 : ∀ j, (pks ps)[k * 3 + j]? = (pks (ps.drop k))[j]? := fun j => by rw [← pks_drop, List.getElem?_drop]
  refine ⟨?_, ?_, ?_⟩
  · have := h2 0; rw [Nat.add_zero] at this; rw [this, h1]; rfl
  · rw [h2, h1]; rfl
  · rw [h2, h1]; rfl

theorem packet_elem : Elem Try.prog 36 27 (.agg #[.int .i64 0, .int .i64 0, .string ⟨#[]⟩]) 3 32 :=
  ⟨Try.underlying36, by kernel_rfl, rfl, by decide, by simp [Value.cells, Value.oneCell']⟩

/-- A net at block b, with its packets. -/
def net (b : Nat) (ps : List Pk) : HP := ex fun ac : Option Addr × Nat => stars [pt b (.cells #[.slice ac.1 ps.length ac.2] 59), row 27 3 (.slice ac.1 ps.length ac.2) ps.length (pks ps)]

section
variable {B w : World} {L : List HP} {b : Nat} {ps : List Pk}
theorem net_out (h : Sat B (net b ps :: L) w) : ∃ a c, Sat B (pt b (.cells #[.slice a ps.length c] 59) :: row 27 3 (.slice a ps.length c) ps.length (pks ps) :: L) w := by
  obtain ⟨⟨a, c⟩, h⟩ := h.ex_out
  exact ⟨a, c, h.flat⟩
theorem net_in {a : Option Addr} {c n : Nat} (hn : n = ps.length) (h : Sat B (pt b (.cells #[.slice a n c] 59) :: row 27 3 (.slice a n c) n (pks ps) :: L) w) : Sat B (net b ps :: L) w := by
  subst hn
  exact Sat.ex_in (a, c) (Sat.fold (L := [_, _]) h)

set_option maxHeartbeats 400000 in
theorem new_net (h : Sat B L w) : Calls Try.prog 12 #[] w fun e w' => ∃ b, e = .returned (.pointer (some ⟨b, 0, none⟩)) ∧ Sat B (net b [] :: L) w' := by
  go_enter Try.func12, Try.ntmps12
  go_wp2
  go_ret
  exact ⟨_, rfl, net_in rfl (((h.row_nil _ _).alloc _))⟩

set_option maxHeartbeats 400000 in
theorem len_net (h : Sat B (net b ps :: L) w) : Calls Try.prog 16 #[.pointer (some ⟨b, 0, none⟩)] w fun e w' => e = .returned (.int .i64 ps.length) ∧ w = w' := by
  obtain ⟨a, c, h'⟩ := net_out h
  have hc : w.cell? ⟨b, 0, none⟩ = some (.slice a ps.length c) := h'.pt_cell 0
  clear h h'
  go_enter Try.func16, Try.ntmps16
  go_wp2
  go_ret
  exact ⟨rfl, rfl⟩

set_option maxHeartbeats 400000 in
theorem send_net (h : Sat B (net b ps :: L) w) (xa : Option Addr) (xc m : Nat) (qs : List Pk) (hx : reads w (.slice xa m xc) m (pks qs)) (hm : qs.length = m) (hle : ps.length ≤ 256) :
    Calls Try.prog 13 #[.pointer (some ⟨b, 0, none⟩), .slice xa m xc] w fun e w' =>
      e = .returned (.int .i64 (m - (min (256 - ps.length) m : Nat))) ∧ Sat B (net b (ps ++ qs.take (256 - ps.length)) :: L) w' := by
  obtain ⟨a, c, h'⟩ := net_out h
  have hc : w.cell? ⟨b, 0, none⟩ = some (.slice a ps.length c) := h'.pt_cell 0
  obtain ⟨k, hk1, hk2⟩ : ∃ k, ps.length + k ≤ 256 ∧ 256 ≤ ps.length + k := ⟨256 - ps.length, by omega, by omega⟩
  have e1 : (256 : Int) - (ps.length : Int) = (k : Int) := by omega
  obtain ⟨hxn, hmc, hcm⟩ := reads_len hx
  by_cases hr : m < k
  · have hb1 : ps.length + m ≤ maxLen := by unfold maxLen; omega
    have hb2 : (ps.length + m) * 32 ≤ 140737488355328 := by omega
    go_enter Try.func13, Try.ntmps13
    go_wp2
    go_region_law (refine step_append_row rfl packet_elem (.tmp 23) (.tmp 26) rfl _ _ _ _ _ _ rfl rfl h'.drew.swap hx (by rw [pks_len, hm]) (pks_one _) hb1 hb2 ?_; intro a' c' w' hS; have hc1 : w'.cell? ⟨b, 0, none⟩ = some _ := hS.swap.pt_cell 0; have hf1 := hS.swap.pt_free 0)
    go_wp2
    go_ret
    refine ⟨ret_int (by omega), ?_⟩
    rw [List.take_of_length_le (by omega)]
    refine net_in (a := a') (c := c') (n := ps.length + m) (by simp [hm]) ?_
    rw [pks_append]
    exact (hS.swap.set (j := 0) _)
  · have hb1 : ps.length + k ≤ maxLen := by unfold maxLen; omega
    have hb2 : (ps.length + k) * 32 ≤ 140737488355328 := by omega
    have hx' := reads_take hx k (k * 3) (by omega)
    rw [pks_take] at hx'
    have hkc : k ≤ xc := by omega
    go_enter Try.func13, Try.ntmps13
    go_wp2
    go_region_law (refine step_append_row rfl packet_elem (.tmp 23) (.tmp 26) rfl _ _ _ _ _ _ rfl rfl h'.drew.swap hx' (by rw [pks_len, List.length_take]; congr 1; omega) (pks_one _) hb1 hb2 ?_; intro a' c' w' hS; have hc1 : w'.cell? ⟨b, 0, none⟩ = some _ := hS.swap.pt_cell 0; have hf1 := hS.swap.pt_free 0)
    go_wp2
    go_ret
    refine ⟨ret_int (by omega), ?_⟩
    rw [show 256 - ps.length = k from by omega]
    refine net_in (a := a') (c := c') (n := ps.length + k) (by rw [List.length_append, List.length_take]; omega) ?_
    rw [pks_append]
    exact (hS.swap.set (j := 0) _)

theorem pks_erase (ps : List Pk) (k : Nat) : (pks ps).take (k * 3) ++ (pks ps).drop ((k + 1) * 3) = pks (ps.eraseIdx k) := by
  rw [pks_take, pks_drop, ← pks_append, List.eraseIdx_eq_take_drop_succ]

set_option maxHeartbeats 400000 in
theorem take_net_no (h : Sat B (net b ps :: L) w) (k : Int) (hk : k < 0 ∨ ps.length ≤ k) :
    Calls Try.prog 17 #[.pointer (some ⟨b, 0, none⟩), .int .i64 k] w fun e w' =>
      e = .returned (.tuple #[.agg #[.int .i64 0, .int .i64 0, .string ⟨#[]⟩], .bool false]) ∧ Sat B (net b ps :: L) w' := by
  rcases hk with hk | hk
  · go_enter Try.func17, Try.ntmps17
    go_wp2
    refine bodyPost_ret (v := .tuple #[.agg #[.int .i64 0, .int .i64 0, .string ⟨#[]⟩], .bool false]) (by simp [results, Try.results17, go_sem]) rfl ⟨rfl, ?_⟩
    exact (h.alloc _).drop
  · have h0 : 0 ≤ k := by omega
    go_enter Try.func17, Try.ntmps17
    go_wp2_with (go_at_call 16; refine (len_net (h.alloc _).swap).mono ?_; rintro e w' ⟨rfl, rfl⟩)
    refine bodyPost_ret (v := .tuple #[.agg #[.int .i64 0, .int .i64 0, .string ⟨#[]⟩], .bool false]) (by simp [results, Try.results17, go_sem]) rfl ⟨rfl, ?_⟩
    exact (h.alloc _).drop
set_option maxHeartbeats 400000 in
theorem take_net (h : Sat B (net b ps :: L) w) (k : Nat) (hk : k < ps.length) (hle : ps.length ≤ 256) :
    Calls Try.prog 17 #[.pointer (some ⟨b, 0, none⟩), .int .i64 k] w fun e w' =>
      e = .returned (.tuple #[.agg #[.int .i64 ps[k].1, .int .i64 ps[k].2.1, .string ps[k].2.2], .bool true]) ∧ Sat B (net b (ps.eraseIdx k) :: L) w' := by
  obtain ⟨a, c, h'⟩ := net_out h
  have hc : w.cell? ⟨b, 0, none⟩ = some (.slice a ps.length c) := h'.pt_cell 0
  rcases h'.swap.row_form with ⟨hv, h0, _⟩ | ⟨g, off, cap, hv, hn, hcm, hge, hlt, hcells, hfree, hthere⟩
  · omega
  cases hv
  obtain ⟨p0, p1, p2⟩ := pks_get ps k hk
  have c0 := hcells _ _ p0
  have c1 := hcells _ _ p1
  have c2 := hcells _ _ p2
  rw [← Nat.add_assoc] at c1 c2
  clear p0 p1 p2 hcells hfree hthere
  have hb := h'.pt_lt
  unfold maxLen at hcm
  have hl3 : (pks ps).length = ps.length * 3 := pks_len ps
  have S0 := (((h'.alloc (.cells #[.int .i64 0, .int .i64 0, .string ⟨#[]⟩] 27)).alloc' (.cells #[.int .i64 ps[k].1, .int .i64 ps[k].2.1, .string ps[k].2.2] 27) (n := w.heap.size + 1) (by simp)).drew).p3
  have R0 := reads_tail S0.row_reads (k + 1) 3 (by omega) hl3
  have S1 := S0.row_take k k (by omega) (Nat.le_refl _) (by omega)
  have hl1 : ((pks ps).drop ((k + 1) * 3)).length = (ps.length - (k + 1)) * 3 := by rw [List.length_drop, hl3]; omega
  have ho1 : ∀ u ∈ (pks ps).drop ((k + 1) * 3), u.oneCell' = true := fun u hu => pks_one ps u (List.mem_of_mem_drop hu)
  have hb1 : k + (ps.length - (k + 1)) ≤ maxLen := by unfold maxLen; omega
  have hb2 : (k + (ps.length - (k + 1))) * 32 ≤ 140737488355328 := by omega
  have hkc : k ≤ c := by omega
  have hkc1 : k + 1 ≤ c := by omega
  have hkn1 : k + 1 ≤ ps.length := by omega
  have R1 : c = k + 1 → reads _ (.slice (some ⟨g, off, none⟩) (ps.length - (k + 1)) 0) (ps.length - (k + 1)) ((pks ps).drop ((k + 1) * 3)) := fun e => by
    have := R0.1 e
    rw [e, Nat.sub_self] at this
    exact this
  have R2 := R0.2
  clear R0 S0
  by_cases hlast : c = k + 1
  all_goals
    go_enter Try.func17, Try.ntmps17
    go_wp2_with (go_at_call 16; refine (len_net (h.alloc _).swap).mono ?_; rintro e w' ⟨rfl, rfl⟩)
    have i1 : IntKind.i64.wrap ((k : Int) + 1) = (k : Int) + 1 := IntWalk.i64_in _ (by omega)
    have i2 : 0 ≤ (k : Int) + 1 := by omega
    have i3 : ((k : Int) + 1).toNat = k + 1 := by omega
    have i4 : (k : Int) + 1 ≤ (ps.length : Int) := by omega
    have i5 : (k : Int) ≤ (k : Int) + 1 := by omega
    go_region_law (refine step_append_row rfl packet_elem (.tmp 30) (.tmp 37) rfl _ _ _ _ _ _ rfl rfl S1 (by first | exact R1 hlast | exact R2 hlast) hl1 ho1 hb1 hb2 ?_; intro a' c' w' hS; have hc1 : w'.cell? ⟨b, 0, none⟩ = some _ := hS.p3.pt_cell 0; have hf1 := hS.p3.pt_free 0)
    all_goals
      have y0 : w'.cell? ⟨w.heap.size + 1, 0, none⟩ = some (.int .i64 ps[k].1) := hS.swap.pt_cell 0
      have y1 : w'.cell? ⟨w.heap.size + 1, 1, none⟩ = some (.int .i64 ps[k].2.1) := hS.swap.pt_cell 1
      have y2 : w'.cell? ⟨w.heap.size + 1, 2, none⟩ = some (.string ps[k].2.2) := hS.swap.pt_cell 2
      have z0 : w'.cell? ⟨w.heap.size, 0, none⟩ = some (.int .i64 0) := hS.p2.pt_cell 0
      have z1 : w'.cell? ⟨w.heap.size, 1, none⟩ = some (.int .i64 0) := hS.p2.pt_cell 1
      have z2 : w'.cell? ⟨w.heap.size, 2, none⟩ = some (.string ⟨#[]⟩) := hS.p2.pt_cell 2
      have zf := hS.p2.pt_free
      go_wp2
      refine bodyPost_ret (v := .tuple #[.agg #[.int .i64 ps[k].1, .int .i64 ps[k].2.1, .string ps[k].2.2], .bool true]) (by simp [results, Try.results17, go_sem, z0, z1, z2]) rfl ⟨rfl, ?_⟩
      refine net_in (a := a') (c := c') (n := k + (ps.length - (k + 1))) (by rw [List.length_eraseIdx, if_pos hk]; omega) ?_
      rw [← pks_erase]
      exact (((hS.p3.set (j := 0) _).p3.set (j := 0) _).set (j := 1) _).set (j := 2) _ |>.drop.p2.drop
end
#print axioms take_net
end Go.Proofs.Ytgccdndlpjbkhaa
