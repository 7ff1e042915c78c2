/-
  wal: Drop: contract. wal: Cut: what its walk needs: the last file left off, the builder's keeping, Cut in plain Lean. wal: Cut: contract.
-/
import Derived.Test.YtdngjkjoahgelaaGreatDoorWaC
import Derived.Test.YtdngjkjoahgelaaGreatDoorWlN
import Derived.Lib.FrozenHead
namespace Go.Proofs.YtdngjkjoahgelaaGreatDoor
set_option linter.all false
set_option maxRecDepth 100000
set_option maxHeartbeats 1000000
open Go.RowKit
section
variable {B w w' : World} {L M : List HP} {q p most room : Nat} {pre : Bt} {D : Fls} {F : List WF}
theorem dropW_two {f g : WF} {F : List WF} {tn : Nat} {D : Fls} (h : g.first ≤ tn) : dropW pre tn (f :: g :: F) D = dropW pre tn (g :: F) (removeD D (nameW pre f.first)).2 := by rw [dropW, if_pos h]
theorem dropW_stop {f g : WF} {F : List WF} {tn : Nat} {D : Fls} (h : ¬ g.first ≤ tn) : dropW pre tn (f :: g :: F) D = (D, f :: g :: F) := by rw [dropW, if_neg h]
theorem dropW_short {F : List WF} {tn : Nat} {D : Fls} (h : F.length ≤ 1) : dropW pre tn F D = (D, F) := by
  match F, h with
  | [], _ => rfl
  | [f], _ => rfl
/-- The first file is left off. -/
theorem wal_tail {g off m c : Nat} {x : WF × Value} {G : List (WF × Value)} (hm : G.length = m) (hc : m + 1 ≤ c) (hok : WOk pre (x.1 :: G.map (·.1)))
    (h : Sat B (pt q (wlC p pre most (.slice (some ⟨g, off, none⟩) (m + 1) c)) :: row 87 3 (.slice (some ⟨g, off, none⟩) (m + 1) c) (m + 1) ((x :: G).flatMap wfC) :: stars ((x :: G).map recP) :: L) w) :
    Sat B (wal q p pre most (G.map (·.1)) :: L) (w.setCell ⟨q, 3, none⟩ (.slice (some ⟨g, off + 3, none⟩) m (c - 1))) := by
  have h1 := h.set (j := 3) (.slice (some ⟨g, off + 3, none⟩) m (c - 1))
  have h2 : Sat B (row 87 3 (.slice (some ⟨g, off + 3, none⟩) m (c - 1)) m ((((x :: G).flatMap wfC).drop (1 * 3)).take (m * 3)) :: pt q (wlC p pre most (.slice (some ⟨g, off + 3, none⟩) m (c - 1))) :: stars ((x :: G).map recP) :: L) _ :=
    h1.swap.row_cut 1 m (c - 1) (by omega) (by omega) (by omega)
  have e1 : (((x :: G).flatMap wfC).drop (1 * 3)).take (m * 3) = G.flatMap wfC := by
    have hl := wf_len G
    rw [hm] at hl
    rw [List.flatMap_cons, show 1 * 3 = (wfC x).length from rfl, List.drop_left, ← hl, List.take_length]
  rw [e1] at h2
  have h3 : Sat B (stars (recP x :: G.map recP) :: row 87 3 (.slice (some ⟨g, off + 3, none⟩) m (c - 1)) m (G.flatMap wfC) :: pt q (wlC p pre most (.slice (some ⟨g, off + 3, none⟩) m (c - 1))) :: L) _ := h2.p2
  have h4 : Sat B (recP x :: (G.map recP ++ (row 87 3 (.slice (some ⟨g, off + 3, none⟩) m (c - 1)) m (G.flatMap wfC) :: pt q (wlC p pre most (.slice (some ⟨g, off + 3, none⟩) m (c - 1))) :: L))) _ := h3.flat
  have h5 := Sat.fold (L := G.map recP) h4.drop
  subst hm
  exact wal_close (fv := .slice (some ⟨g, off + 3, none⟩) G.length (c - 1)) rfl ⟨hok.pre, fun f hf => hok.first f (List.mem_cons_of_mem _ hf), fun f hf => hok.recs f (List.mem_cons_of_mem _ hf), by have := hok.many; simp at this ⊢; omega⟩ h5.swap.p2
/-- 'Drop'. -/
theorem pwDrop (hE : Env B) (tn : Nat) (hto : tn ≤ 18446744073709551615) (h : Sat B (wal q p pre most F :: disk p room D :: L) w) :
    Calls Tryz.prog 20 #[.pointer (some ⟨q, 0, none⟩), .int .u64 (tn : Int)] w fun y w' => y = .returned (.int .i64 0) ∧ Sat B (wal q p pre most (dropW pre tn F D).2 :: disk p room (dropW pre tn F D).1 :: L) w' := by
  have c0 := (wal_cells h).1
  have hno := pwNone (q := q) c0
  obtain ⟨N, hN⟩ : ∃ N, F.length = N := ⟨_, rfl⟩
  have b0 : (tn : Int) ≤ 18446744073709551615 := by omega
  have HN := Lib.hid hN
  clear hN c0
  go_enter Tryz.func20, Tryz.ntmps20
  go_wp2_with (go_at_call 39; refine hno.mono ?_; rintro y w1 ⟨rfl, rfl⟩)
  clear hno
  go_loopg [] (N + 1) (fun gh wr => ∃ (F1 : List WF) (D1 : Fls), dropW pre tn F D = dropW pre tn F1 D1 ∧ F1.length + 1 ≤ gh ∧ Sat B (wal q p pre most F1 :: disk p room D1 :: L) wr)
  case atStart => exact ⟨F, D, rfl, by have := HN.out; omega, h⟩
  case round =>
    clear h
    obtain ⟨F1, D1, hdr, hlen, h1⟩ := hrel
    have hdk := disk_ok h1.swap
    obtain ⟨fv, G, hG, hok, h2⟩ := wal_open h1
    have c0 : wr.cell? ⟨q, 0, none⟩ = some (.pointer (some ⟨p, 0, none⟩)) := h2.pt_cell 0
    have c3 : wr.cell? ⟨q, 3, none⟩ = some fv := h2.pt_cell 3
    obtain ⟨a, c, rfl, ha, hnc, hc⟩ := h2.swap.row_reads
    have hc : c ≤ 9223372036854775807 := by have := hc.1; unfold maxLen at this; omega
    have hGl : G.length = F1.length := by rw [← hG, List.length_map]
    have hmany := hok.many
    by_cases hs : F1.length ≤ 1
    · rw [dropW_short hs] at hdr
      have Hdr := Lib.hid hdr
      obtain ⟨m, hm⟩ : ∃ m, G.length = m := ⟨_, rfl⟩
      have hm1 : m ≤ 1 := by omega
      rw [hm] at c3
      have b1 : ¬ (m : Int) > 1 := by omega
      have b2 : ¬ (1 : Int) < (m : Int) := by omega
      have b3 : (m : Int) ≤ 1 := by omega
      clear hdr hlen hdk h2 ha hG hGl hok hs hm hmany hnc
      go_wp2_with fail
      go_ret
      rw [Hdr.out]
      exact ⟨rfl, h1⟩
    · obtain ⟨f, g1, F2, rfl⟩ : ∃ f g1 F2, F1 = f :: g1 :: F2 := by
        clear hdr hlen h1 hdk hok h2 ha hG hGl hmany
        match F1, hs with
        | [], hs => simp at hs
        | [f], hs => simp at hs
        | f :: g1 :: F2, _ => exact ⟨_, _, _, rfl⟩
      obtain ⟨f', v, g', u, G2, rfl⟩ : ∃ f' v g' u G2, G = (f', v) :: (g', u) :: G2 := by
        clear hdr hlen h1 hdk hok h2 ha hmany c3
        match G, hGl with
        | [], e => simp at e
        | [x], e => simp at e
        | (f', v) :: (g', u) :: G2, _ => exact ⟨_, _, _, _, _, rfl⟩
      simp only [List.map_cons, List.cons.injEq] at hG
      obtain ⟨rfl, rfl, hG2⟩ := hG
      obtain ⟨m, hm⟩ : ∃ m, G2.length = m := ⟨_, rfl⟩
      have hm2 : m + 2 ≤ 1000000 := by simp at hGl hmany; omega
      have hl : ((f', v) :: (g', u) :: G2).length = m + 1 + 1 := by simp [hm]
      rw [hl] at c3 h2 ha hnc
      obtain ⟨g, off, rfl⟩ := row_some (g := Unit) h2.swap (by omega)
      obtain ⟨d1, _⟩ := file_at (i := 0) h2.swap rfl
      obtain ⟨e1, _⟩ := file_at (i := 1) h2.swap rfl
      simp only [Nat.zero_mul, Nat.add_zero, Nat.one_mul] at d1 e1
      have hf1 := hok.first f' (by simp)
      have hf2 := hok.first g' (by simp)
      have b1 : ((m + 1 + 1 : Nat) : Int) > 1 := by omega
      have b2 : (1 : Int) < ((m + 1 + 1 : Nat) : Int) := by omega
      have b1' : ((m : Int) + 1 + 1) > 1 := by omega
      have b2' : (1 : Int) < (m : Int) + 1 + 1 := by omega
      have b3 : (m : Int) ≤ 1000000 := by omega
      have b4 : (0 : Int) < (m : Int) + 1 + 1 := by omega
      have hc2 : m + 1 + 1 ≤ c := hnc
      have hc3 : ¬ c - 1 = 0 := by omega
      have hc4 : (c : Int) ≤ 9223372036854775807 := by omega
      have hc5 : (m : Int) + 1 + 1 ≤ (c : Int) := by omega
      have hc6 : (1 : Int) ≤ (c : Int) := by omega
      by_cases hle : g'.first ≤ tn
      · rw [dropW_two hle] at hdr
        have l1 : (g'.first : Int) ≤ (tn : Int) := by omega
        have Hdr := Lib.hid hdr
        have Hok := Lib.hid hok
        have Hl := Lib.hid (show (f' :: g' :: F2).length + 1 ≤ gk from hlen)
        have HG2 := Lib.hid hG2
        have Hm := Lib.hid hm
        have hpl := hok.pre
        have hS : ∀ (D' : Fls) (w' : World), Sat B (pt q (wlC p pre most (.slice (some ⟨g, off, none⟩) (m + 1 + 1) c)) :: row 87 3 (.slice (some ⟨g, off, none⟩) (m + 1 + 1) c) (m + 1 + 1) (((f', v) :: (g', u) :: G2).flatMap wfC) :: stars (((f', v) :: (g', u) :: G2).map recP) :: disk p room D' :: L) w' →
            w'.cell? ⟨q, 0, none⟩ = some (.pointer (some ⟨p, 0, none⟩)) ∧ w'.cell? ⟨q, 3, none⟩ = some (.slice (some ⟨g, off, none⟩) (m + 1 + 1) c) ∧ w'.cell? ⟨g, off, none⟩ = some (.int .u64 (f'.first : Int)) := fun D' w' h' =>
          ⟨h'.pt_cell 0, h'.pt_cell 3, by have := (file_at (i := 0) h'.swap rfl).1; simpa using this⟩
        have hc1 : ∀ w', Sat B (pt q (wlC p pre most (.slice (some ⟨g, off, none⟩) (m + 1 + 1) c)) :: row 87 3 (.slice (some ⟨g, off, none⟩) (m + 1 + 1) c) (m + 1 + 1) (((f', v) :: (g', u) :: G2).flatMap wfC) :: stars (((f', v) :: (g', u) :: G2).map recP) :: disk p room D1 :: L) w' →
            w'.cell? ⟨q, 1, none⟩ = some (.string (bA pre)) := fun w' h' => h'.pt_cell 1
        have h2d := h2.drew
        have h0 := hS _ _ h2d
        clear hdr hlen hdk ha hGl hok hs hm hmany h1 h2 hG2 hl hnc
        go_wp2_with fail
        go_region_held3 (fun w' => w'.cell? ⟨q, 0, none⟩ = some (.pointer (some ⟨p, 0, none⟩)) ∧ w'.cell? ⟨q, 3, none⟩ = some (.slice (some ⟨g, off, none⟩) (m + 1 + 1) c) ∧ w'.cell? ⟨g, off, none⟩ = some (.int .u64 (f'.first : Int)))
          (first | exact h0 | exact hS _ _ h5.q3 | exact hS _ _ h4)
          (first
            | (go_at_call 37; refine (pwName hE f'.first hf1.2 h2d hc1 hpl).mono ?_; rintro y w4 ⟨rfl, h4⟩)
            | (go_at_call 33; refine (pdRemove (nameW pre f'.first) h4.p3).mono ?_; rintro y w5 ⟨rfl, h5⟩))
        all_goals
          have h6 := h5.q3
          obtain ⟨k0, k3, _⟩ := hS _ _ h6
          have kf := h6.pt_free 3
          go_wp2_with fail
          go_roundg (gk - 1)
          case measure => have := Hl.out; omega
          case rel =>
            refine ⟨g' :: F2, _, Hdr.out, by have := Hl.out; simp at this ⊢; omega, ?_⟩
            have h7 := wal_tail (c := c) (x := (f', v)) (G := (g', u) :: G2) (m := m + 1) (by have := Hm.out; simp [this]) (by omega) (by have := Hok.out; rw [← HG2.out] at this; exact this) h6
            rw [List.map_cons, HG2.out] at h7
            exact h7
      · rw [dropW_stop hle] at hdr
        have l1 : ¬ (g'.first : Int) ≤ (tn : Int) := by omega
        have l2 : (tn : Int) < (g'.first : Int) := by omega
        have Hdr := Lib.hid hdr
        clear hdr hlen hdk h2 ha hGl hok hs hm hmany hl hnc
        go_wp2_with fail
        go_ret
        rw [Hdr.out]
        exact ⟨rfl, h1⟩
end
end Go.Proofs.YtdngjkjoahgelaaGreatDoor

namespace Go.Proofs.YtdngjkjoahgelaaGreatDoor
set_option linter.all false
set_option maxRecDepth 100000
set_option maxHeartbeats 1000000
open Go.RowKit
theorem bf_below {b0 b : Nat} {bs : List Value} {w w' : World} (h : Lib.IsBuilderF 99 5 b0 b bs w) (hb : Below w.heap.size w w') : Lib.IsBuilderF 99 5 b0 b bs w' := by
  have key : ∀ p, Lib.BuilderAtF 99 5 b0 b p bs w → Lib.BuilderAtF 99 5 b0 b p bs w' := fun p h => by
    obtain ⟨hB, v, hbk, ⟨hl, ho⟩, hne⟩ := h
    refine ⟨hB, v, (hb.block b (Array.getElem?_eq_some_iff.1 hbk).1).trans hbk, ⟨hl, ?_⟩, hne⟩
    rcases ho with ho | ⟨g, cap, cur, fz, hv, hg, hc, h1, h2, h3, h4, h5⟩
    · exact .inl ho
    · exact .inr ⟨g, cap, cur, fz, hv, hg, (hb.block g (Array.getElem?_eq_some_iff.1 hc).1).trans hc, h1, h2, h3, h4, h5⟩
  rcases h with h | h
  · exact .inl (key _ h)
  · exact .inr (key _ h)
theorem bf_block {b0 b n : Nat} {bs : List Value} {w : World} (h : Lib.IsBuilderF 99 5 b0 b bs w) (hn : bs.length = n) : b0 ≤ b ∧ ∃ pv a c, w.heap[b]? = some (.cells #[pv, .slice a n c] 99) := by
  subst hn
  have key : ∀ p, Lib.BuilderAtF 99 5 b0 b p bs w → b0 ≤ b ∧ ∃ pv a c, w.heap[b]? = some (.cells #[pv, .slice a bs.length c] 99) := fun p h => by
    obtain ⟨hB, v, hbk, ⟨hl, ho⟩, hne⟩ := h
    rcases ho with ⟨rfl, e⟩ | ⟨g, cap, cur, fz, rfl, _⟩
    · rw [e]; exact ⟨hB, _, _, _, hbk⟩
    · exact ⟨hB, _, _, _, hbk⟩
  rcases h with h | h
  · exact key _ h
  · exact key _ h
section
variable {B w w' : World} {L M : List HP} {q p most room fr : Nat} {pre : Bt} {D D1 : Fls} {F F' : List WF} {f : WF}
theorem Sat.of_pt (h : Sat B L w) (hb : Below w.heap.size w w') {k : Nat} {o : Obj} (hk : w.heap.size ≤ k) (ho : w'.heap[k]? = some o) : Sat B (pt k o :: L) w' := by
  refine (Sat.fact_in (p := True) trivial h).turn hb.os hb.tape hb.output hb.size fun a _ h2 => ?_
  refine ⟨fun i => if i = k then some o else none, by simp [pt], fun i o' ek => ?_, fun i hi _ => hb.block i hi⟩
  simp only [] at ek
  split at ek
  · rename_i hi; subst hi; cases ek; exact ⟨ho, .inr hk⟩
  · cases ek
theorem cutBack_pop (h : fr < f.first) : cutBack pre fr (F' ++ [f]).reverse D = cutBack pre fr F'.reverse (removeD D (nameW pre f.first)).2 := by
  rw [List.reverse_append]; simp [cutBack, h]
theorem cutBack_end (h : ¬ fr < f.first) : cutBack pre fr (F' ++ [f]).reverse D = (D, f :: F'.reverse) := by
  rw [List.reverse_append]; simp [cutBack, h]
/-- What stands while files are taken off. -/
structure CutI (pre : Bt) (fr : Nat) (F : List WF) (D : Fls) (F1 : List WF) (D1 : Fls) : Prop where
  eq : cutBack pre fr F.reverse D = cutBack pre fr F1.reverse D1
  ne : F1 ≠ []
  chain : chainW none F1
  low : firstW F1 ≤ fr
  high : fr < nextW F1
  recs : ∀ g ∈ F1, ∀ r ∈ g.recs, r.length ≤ 1048576
theorem CutI.pop (h : CutI pre fr F D (F' ++ [f]) D1) (hf : fr < f.first) : CutI pre fr F D F' (removeD D1 (nameW pre f.first)).2 ∧ F' ≠ [] := by
  have hne : F' ≠ [] := by
    rintro rfl
    have := h.low
    simp [firstW] at this
    omega
  have hc := h.chain
  rw [chain_app] at hc
  refine ⟨⟨by rw [h.eq, cutBack_pop hf], hne, hc.1, by have := h.low; rwa [first_app hne] at this, ?_, fun g hg => h.recs g (List.mem_append_left _ hg)⟩, hne⟩
  obtain ⟨G, g, rfl⟩ := (snoc_cases F').resolve_left hne
  rw [nextW_snoc]
  have h2 := hc.2.1
  have e : lastNx none (G ++ [g]) = some g.next := by simp [lastNx]
  rw [e] at h2
  have := Option.some.inj (h2.resolve_left (by simp))
  omega
theorem CutI.last (h : CutI pre fr F D (F' ++ [f]) D1) (hf : ¬ fr < f.first) (h1 : firstW F ≤ fr) (h2 : fr < nextW F) :
    fr - f.first < f.recs.length ∧ cutW room pre D F fr = if (anewW room D1 pre f.first (framesB (f.recs.take (fr - f.first)))).1 = 0 then (0, (anewW room D1 pre f.first (framesB (f.recs.take (fr - f.first)))).2, F' ++ [⟨f.first, f.recs.take (fr - f.first)⟩])
      else ((anewW room D1 pre f.first (framesB (f.recs.take (fr - f.first)))).1, (anewW room D1 pre f.first (framesB (f.recs.take (fr - f.first)))).2, F' ++ [f]) := by
  refine ⟨by have := h.high; rw [nextW_snoc] at this; simp only [WF.next] at this; omega, ?_⟩
  rw [cutW, if_neg (by omega), if_neg (by omega), h.eq, cutBack_end hf]
  simp
theorem cutW_low (h : fr < firstW F) : cutW room pre D F fr = (2, D, F) := by rw [cutW, if_pos h]
theorem cutW_high (h1 : firstW F ≤ fr) (h : nextW F ≤ fr) : cutW room pre D F fr = (0, D, F) := by rw [cutW, if_neg (by omega), if_pos h]
/-- The last file is left off. -/
theorem wal_init {g off m c : Nat} {x : WF × Value} {G : List (WF × Value)} (hm : G.length = m) (hc : m + 1 ≤ c) (hok : WOk pre (G.map (·.1) ++ [x.1]))
    (h : Sat B (pt q (wlC p pre most (.slice (some ⟨g, off, none⟩) (m + 1) c)) :: row 87 3 (.slice (some ⟨g, off, none⟩) (m + 1) c) (m + 1) ((G ++ [x]).flatMap wfC) :: stars ((G ++ [x]).map recP) :: L) w) :
    Sat B (wal q p pre most (G.map (·.1)) :: L) (w.setCell ⟨q, 3, none⟩ (.slice (some ⟨g, off, none⟩) m c)) := by
  have h1 := h.set (j := 3) (.slice (some ⟨g, off, none⟩) m c)
  have h2 : Sat B (row 87 3 (.slice (some ⟨g, off, none⟩) m c) m (((G ++ [x]).flatMap wfC).take (m * 3)) :: pt q (wlC p pre most (.slice (some ⟨g, off, none⟩) m c)) :: stars ((G ++ [x]).map recP) :: L) _ :=
    h1.swap.row_take m c (by omega) (by omega) (by omega)
  have e1 : ((G ++ [x]).flatMap wfC).take (m * 3) = G.flatMap wfC := by
    have hl := wf_len G
    rw [hm] at hl
    rw [List.flatMap_append, ← hl, List.take_left]
  rw [e1] at h2
  have h3 := h2.p2
  rw [List.map_append] at h3
  have h4 : Sat B (recP x :: stars (G.map recP ++ []) :: _) _ := Sat.mid (L2 := []) h3
  have h5 := h4.drop
  rw [List.append_nil] at h5
  subst hm
  exact wal_close (fv := .slice (some ⟨g, off, none⟩) G.length c) rfl ⟨hok.pre, fun f hf => hok.first f (List.mem_append_left _ hf), fun f hf => hok.recs f (List.mem_append_left _ hf), by have := hok.many; simp at this ⊢; omega⟩ h5.swap.p2
theorem rec_take {g2 o2 rc rl k : Nat} (hrl : f.recs.length = rl) (hk : k ≤ rl) (hrc : rl ≤ rc) (h : Sat B (recP (f, Value.slice (some ⟨g2, o2, none⟩) rl rc) :: M) w) : Sat B (recP (⟨f.first, f.recs.take k⟩, Value.slice (some ⟨g2, o2, none⟩) k k) :: M) w := by
  subst hrl
  have h4 : Sat B (row 9 1 (.slice (some ⟨g2, o2, none⟩) f.recs.length rc) f.recs.length (strB f.recs) :: M) w := h
  have h5 := h4.row_take k k hk (Nat.le_refl _) (by omega)
  have e2 : (strB f.recs).take (k * 1) = strB (f.recs.take k) := by simp [strB]
  have e3 : (f.recs.take k).length = k := by simp; omega
  show Sat B (row 9 1 (.slice (some ⟨g2, o2, none⟩) k k) (f.recs.take k).length (strB (f.recs.take k)) :: M) w
  rw [e3, ← e2]
  exact h5
/-- The last file's records are cut. -/
theorem wal_cut {g off m c g2 o2 rc rl k : Nat} {G : List (WF × Value)} (hm : G.length = m) (hrl : f.recs.length = rl) (hk : k ≤ rl) (hrc : rl ≤ rc) (hok : WOk pre (G.map (·.1) ++ [f]))
    (h : Sat B (pt q (wlC p pre most (.slice (some ⟨g, off, none⟩) (m + 1) c)) :: row 87 3 (.slice (some ⟨g, off, none⟩) (m + 1) c) (m + 1) ((G ++ [(f, Value.slice (some ⟨g2, o2, none⟩) rl rc)]).flatMap wfC) :: stars ((G ++ [(f, Value.slice (some ⟨g2, o2, none⟩) rl rc)]).map recP) :: L) w) :
    Sat B (wal q p pre most (G.map (·.1) ++ [⟨f.first, f.recs.take k⟩]) :: L) ((w.setCell ⟨g, off + m * 3 + 1, none⟩ (.int .i64 ((framesB (f.recs.take k)).length : Int))).setCell ⟨g, off + m * 3 + 2, none⟩ (.slice (some ⟨g2, o2, none⟩) k k)) := by
  have h1 := h.swap.row_set (m * 3 + 1) (by omega) (u := .int .i64 ((framesB (f.recs.take k)).length : Int)) rfl
  have h2 := h1.row_set (m * 3 + 2) (by omega) (u := .slice (some ⟨g2, o2, none⟩) k k) rfl
  have e := wf_set G (f := f) (f' := ⟨f.first, f.recs.take k⟩) (.slice (some ⟨g2, o2, none⟩) rl rc) (u := .int .i64 ((framesB (f.recs.take k)).length : Int)) (v' := .slice (some ⟨g2, o2, none⟩) k k) rfl (by rw [frames_len])
  rw [hm] at e
  rw [e, ← Nat.add_assoc, ← Nat.add_assoc] at h2
  have h3 := h2.p2
  rw [List.map_append] at h3
  have h4 : Sat B (recP (f, Value.slice (some ⟨g2, o2, none⟩) rl rc) :: stars (G.map recP ++ []) :: _) _ := Sat.mid (L2 := []) h3
  have h6 := rec_take hrl hk hrc h4
  have h7 : Sat B (stars (G.map recP ++ [recP (⟨f.first, f.recs.take k⟩, Value.slice (some ⟨g2, o2, none⟩) k k)]) :: _) _ := Sat.mid' (L2 := []) h6
  subst hm
  refine wal_close (G := G ++ [(⟨f.first, f.recs.take k⟩, Value.slice (some ⟨g2, o2, none⟩) k k)]) (fv := .slice (some ⟨g, off, none⟩) (G.length + 1) c) (by simp) ⟨hok.pre, fun x hx => ?_, fun x hx => ?_, by have := hok.many; simp at this ⊢; omega⟩ ?_
  · rcases List.mem_append.1 hx with hx | hx
    · exact hok.first x (List.mem_append_left _ hx)
    · obtain rfl := List.mem_singleton.1 hx
      exact hok.first f (List.mem_append_right _ (List.mem_singleton.2 rfl))
  · rcases List.mem_append.1 hx with hx | hx
    · exact hok.recs x (List.mem_append_left _ hx)
    · obtain rfl := List.mem_singleton.1 hx
      have h8 := hok.recs f (List.mem_append_right _ (List.mem_singleton.2 rfl))
      have h9 : framesB f.recs = framesB (f.recs.take k) ++ framesB (f.recs.drop k) := by rw [← frames_app, List.take_append_drop]
      have h10 := congrArg List.length h9
      rw [List.length_append, frames_len, frames_len] at h10
      simp only [WF.size] at h8 ⊢
      omega
  · rw [List.map_append, List.length_append]
    exact h7.swap.p2
/-- '(strings.Builder).Len' of a builder that lies as a block. -/
theorem pbLen {b n : Nat} {a : Option Addr} {c : Nat} (hc : w.cell? ⟨b, 1, none⟩ = some (.slice a n c)) : Calls Tryz.prog 49 #[.pointer (some ⟨b, 0, none⟩)] w fun y w' => y = .returned (.int .i64 (n : Int)) ∧ w' = w := by
  go_enter Tryz.func49, Tryz.ntmps49
  go_wp2_with fail
  go_ret
  exact ⟨rfl, rfl⟩
end
end Go.Proofs.YtdngjkjoahgelaaGreatDoor

namespace Go.Proofs.YtdngjkjoahgelaaGreatDoor
set_option linter.all false
set_option maxRecDepth 100000
set_option maxHeartbeats 4000000
open Go.RowKit
section
variable {B w w' : World} {L M : List HP} {q p most room fr : Nat} {pre : Bt} {D D1 : Fls} {F F' : List WF} {f : WF}
def CutPost (B : World) (L : List HP) (q p most room : Nat) (pre : Bt) (D : Fls) (F : List WF) (fr : Nat) (y : Ending) (w' : World) : Prop :=
  y = .returned (.int .i64 (cutW room pre D F fr).1) ∧ Sat B (wal q p pre most (cutW room pre D F fr).2.2 :: disk p room (cutW room pre D F fr).2.1 :: L) w'
theorem pwCut_low (hlow : fr < firstW F) (hfr : fr ≤ 18446744073709551615) (h : Sat B (wal q p pre most F :: disk p room D :: L) w) :
    Calls Tryz.prog 21 #[.pointer (some ⟨q, 0, none⟩), .int .u64 (fr : Int)] w (CutPost B L q p most room pre D F fr) := by
  have c0 := (wal_cells h).1
  have hno := pwNone (q := q) c0
  have hfi := pwFirst h
  have Hw := Lib.hid (cutW_low (room := room) (pre := pre) (D := D) hlow)
  obtain ⟨x, hx⟩ : ∃ x, firstW F = x := ⟨_, rfl⟩
  rw [hx] at hfi hlow
  have b1 : (fr : Int) < (x : Int) := by omega
  have b2 : (fr : Int) ≤ 18446744073709551615 := by omega
  clear hx hlow c0
  go_enter Tryz.func21, Tryz.ntmps21
  go_wp2_with (first
    | (go_at_call 39; refine hno.mono ?_; rintro y w1 ⟨rfl, rfl⟩)
    | (go_at_call 13; refine hfi.mono ?_; rintro y w1 ⟨rfl, rfl⟩))
  go_ret
  unfold CutPost
  rw [Hw.out]
  exact ⟨rfl, h⟩
theorem pwCut_high (h1 : firstW F ≤ fr) (h2 : nextW F ≤ fr) (hfr : fr ≤ 18446744073709551615) (h : Sat B (wal q p pre most F :: disk p room D :: L) w) :
    Calls Tryz.prog 21 #[.pointer (some ⟨q, 0, none⟩), .int .u64 (fr : Int)] w (CutPost B L q p most room pre D F fr) := by
  have c0 := (wal_cells h).1
  have hno := pwNone (q := q) c0
  have hfi := pwFirst h
  have hnx := pwNext h
  have Hw := Lib.hid (cutW_high (room := room) (pre := pre) (D := D) h1 h2)
  obtain ⟨x, hx⟩ : ∃ x, firstW F = x := ⟨_, rfl⟩
  obtain ⟨nx, hn⟩ : ∃ nx, nextW F = nx := ⟨_, rfl⟩
  rw [hx] at hfi h1
  rw [hn] at hnx h2
  have b1 : ¬ (fr : Int) < (x : Int) := by omega
  have b1' : (x : Int) ≤ (fr : Int) := by omega
  have b2 : (fr : Int) ≤ 18446744073709551615 := by omega
  have b3 : (fr : Int) ≥ (nx : Int) := by omega
  have b4 : (nx : Int) ≤ (fr : Int) := by omega
  clear hx h1 h2 hn c0
  go_enter Tryz.func21, Tryz.ntmps21
  go_wp2_with (first
    | (go_at_call 39; refine hno.mono ?_; rintro y w1 ⟨rfl, rfl⟩)
    | (go_at_call 13; refine hfi.mono ?_; rintro y w1 ⟨rfl, rfl⟩)
    | (go_at_call 14; refine hnx.mono ?_; rintro y w1 ⟨rfl, k2, rfl⟩))
  go_ret
  unfold CutPost
  rw [Hw.out]
  exact ⟨rfl, h.drewN k2⟩
theorem rec_last {G' : List (WF × Value)} {v : Value} {A0 A1 : HP} (h : Sat B (A0 :: A1 :: stars ((G' ++ [(f, v)]).map recP) :: L) w) :
    ∃ a c, v = .slice a f.recs.length c ∧ f.recs.length ≤ c ∧ c ≤ maxLen ∧ ∀ j b, f.recs[j]? = some b → ∃ g o, a = some ⟨g, o, none⟩ ∧ w.cell? ⟨g, o + j, none⟩ = some (.string (bA b)) := by
  have h1 := h.p2
  rw [List.map_append] at h1
  have h2 := Sat.mid (L2 := []) h1
  obtain ⟨a, c, e, _, hn, hm, hc⟩ := (show Sat B (row 9 1 v f.recs.length (strB f.recs) :: _) w from h2).row_reads
  exact ⟨a, c, e, hn, hm, fun j b hb => hc j _ (strB_get hb)⟩
theorem pwCut_in (hE : Env B) (hch : chainW none F) (hrs : ∀ g ∈ F, ∀ r ∈ g.recs, r.length ≤ 1048576) (h1 : firstW F ≤ fr) (h2 : fr < nextW F) (hfr : fr ≤ 18446744073709551615) (h : Sat B (wal q p pre most F :: disk p room D :: L) w) :
    Calls Tryz.prog 21 #[.pointer (some ⟨q, 0, none⟩), .int .u64 (fr : Int)] w (CutPost B L q p most room pre D F fr) := by
  have c0 := (wal_cells h).1
  have hno := pwNone (q := q) c0
  have hfi := pwFirst h
  have hnx := pwNext h
  have hne : F ≠ [] := by
    rintro rfl
    simp [firstW, nextW] at h1 h2
    omega
  have HI := Lib.hid (show CutI pre fr F D F D from ⟨rfl, hne, hch, h1, h2, hrs⟩)
  have H12 := Lib.hid (And.intro h1 h2)
  obtain ⟨x, hx⟩ : ∃ x, firstW F = x := ⟨_, rfl⟩
  obtain ⟨nx, hn⟩ : ∃ nx, nextW F = nx := ⟨_, rfl⟩
  rw [hx] at hfi h1
  rw [hn] at hnx h2
  have b1 : ¬ (fr : Int) < (x : Int) := by omega
  have b1' : (x : Int) ≤ (fr : Int) := by omega
  have b2 : (fr : Int) ≤ 18446744073709551615 := by omega
  have b3 : ¬ (fr : Int) ≥ (nx : Int) := by omega
  have b4 : ¬ (nx : Int) ≤ (fr : Int) := by omega
  have b5 : (fr : Int) < (nx : Int) := by omega
  have b6 : ¬ nx ≤ fr := by omega
  have b7 : ¬ fr < x := by omega
  obtain ⟨N, hN⟩ : ∃ N, F.length = N := ⟨_, rfl⟩
  obtain ⟨fv, G, hG, hok, h3⟩ := wal_open h
  have c3 : w.cell? ⟨q, 3, none⟩ = some fv := h3.pt_cell 3
  obtain ⟨a, c, rfl, ha, hnc, hc⟩ := h3.swap.row_reads
  have hc : c ≤ 9223372036854775807 := by have := hc.1; unfold maxLen at this; omega
  rw [show G.length = N by rw [← hN, ← hG, List.length_map]] at c3
  have n1 : (N : Int) ≤ 1000000 := by have := hok.many; omega
  have HN := Lib.hid hN
  clear hx h1 h2 hn c0 hch hrs hne hN hG hok h3 ha hnc hc
  go_enter Tryz.func21, Tryz.ntmps21
  go_wp2_with (first
    | (go_at_call 39; refine hno.mono ?_; rintro y w2 ⟨rfl, rfl⟩)
    | (go_at_call 13; refine hfi.mono ?_; rintro y w3 ⟨rfl, rfl⟩)
    | (go_at_call 14; refine hnx.mono ?_; rintro y w4 ⟨rfl, k2, rfl⟩))
  have h0 := h.drewN k2
  generalize w3.drewN k2 = w1 at h0 ⊢
  clear c3 hno hfi hnx b1 b1' b3 b4 b5 b6 b7 h
  go_loopg [5] (N + 1) (fun gh v5 wr => ∃ (F1 : List WF) (D1 : Fls) (n : Nat), CutI pre fr F D F1 D1 ∧ F1.length = n ∧ n ≤ gh ∧ v5 = .int .i64 (n : Int) ∧ Sat B (wal q p pre most F1 :: disk p room D1 :: L) wr)
  case atStart => exact ⟨F, D, N, HI.out, HN.out, by omega, rfl, h0⟩
  case round =>
    clear h0
    obtain ⟨F1, D1, n, hI, hF1, hlen, rfl, h3⟩ := hrel
    obtain ⟨F', f, rfl⟩ := (snoc_cases F1).resolve_left hI.ne
    obtain ⟨fv, G, hG, hok, h4⟩ := wal_open h3
    have c0 : wr.cell? ⟨q, 0, none⟩ = some (.pointer (some ⟨p, 0, none⟩)) := h4.pt_cell 0
    have c3 : wr.cell? ⟨q, 3, none⟩ = some fv := h4.pt_cell 3
    obtain ⟨a, c, rfl, ha, hnc, hc⟩ := h4.swap.row_reads
    have hc : c ≤ 9223372036854775807 := by have := hc.1; unfold maxLen at this; omega
    obtain ⟨G', v, rfl, hG'⟩ := wal_snoc hG
    obtain ⟨m, hm⟩ : ∃ m, G'.length = m := ⟨_, rfl⟩
    have hx : (G' ++ [(f, v)])[m]? = some (f, v) := by rw [← hm]; simp
    have hl : (G' ++ [(f, v)]).length = m + 1 := by simp [hm]
    have hFl : F'.length = m := by rw [← hG', List.length_map, hm]
    obtain rfl : n = m + 1 := by simp at hF1; omega
    rw [hl] at c3 h4 ha hnc
    obtain ⟨g, off, rfl⟩ := row_some (g := Unit) h4.swap (by omega)
    obtain ⟨d1, _, d3, _⟩ := file_at h4.swap hx
    simp only at d1 d3
    have hf := hok.first f (by simp)
    have hmn : m + 1 ≤ 1000000 := by have := hok.many; simp at this; omega
    have m1 : (m : Int) ≤ 1000000 := by omega
    have m2 : (m : Int) < (m : Int) + 1 := by omega
    have m3 : 0 < (m : Int) + 1 := by omega
    have ew : IntKind.i64.wrap (m : Int) = (m : Int) := wraps_i64' _ (by omega) (by omega)
    have hc2 : m + 1 ≤ c := hnc
    have hc3 : (c : Int) ≤ 9223372036854775807 := by omega
    have hpl := hok.pre
    have Hok := Lib.hid hok
    have Hx := Lib.hid hx
    have Hl := Lib.hid hl
    have HG' := Lib.hid hG'
    have Hm := Lib.hid hm
    have HFl := Lib.hid hFl
    have Hlen := Lib.hid hlen
    have HI2 := Lib.hid hI
    clear hG hok ha hnc hc hx hl hm hG' hlen hF1 HI HN hFl
    by_cases hgt : fr < f.first
    · have l1 : (f.first : Int) > (fr : Int) := by omega
      have l2 : (fr : Int) < (f.first : Int) := by omega
      have hS : ∀ (D' : Fls) (w' : World), Sat B (pt q (wlC p pre most (.slice (some ⟨g, off, none⟩) (m + 1) c)) :: row 87 3 (.slice (some ⟨g, off, none⟩) (m + 1) c) (m + 1) ((G' ++ [(f, v)]).flatMap wfC) :: stars ((G' ++ [(f, v)]).map recP) :: disk p room D' :: L) w' →
          w'.cell? ⟨q, 0, none⟩ = some (.pointer (some ⟨p, 0, none⟩)) ∧ w'.cell? ⟨q, 3, none⟩ = some (.slice (some ⟨g, off, none⟩) (m + 1) c) ∧ w'.cell? ⟨g, off + m * 3, none⟩ = some (.int .u64 (f.first : Int)) := fun D' w' h' =>
        ⟨h'.pt_cell 0, h'.pt_cell 3, (file_at h'.swap Hx.out).1⟩
      have hc1 : ∀ w', Sat B (pt q (wlC p pre most (.slice (some ⟨g, off, none⟩) (m + 1) c)) :: row 87 3 (.slice (some ⟨g, off, none⟩) (m + 1) c) (m + 1) ((G' ++ [(f, v)]).flatMap wfC) :: stars ((G' ++ [(f, v)]).map recP) :: disk p room D1 :: L) w' →
          w'.cell? ⟨q, 1, none⟩ = some (.string (bA pre)) := fun w' h' => h'.pt_cell 1
      have h4d := h4.drew
      have h0 := hS _ _ h4d
      have Hgt := Lib.hid hgt
      clear h3 h4 d3 hgt
      go_wp2_with fail
      go_region_held3 (fun w' => w'.cell? ⟨q, 0, none⟩ = some (.pointer (some ⟨p, 0, none⟩)) ∧ w'.cell? ⟨q, 3, none⟩ = some (.slice (some ⟨g, off, none⟩) (m + 1) c) ∧ w'.cell? ⟨g, off + m * 3, none⟩ = some (.int .u64 (f.first : Int)))
        (first | exact h0 | exact hS _ _ h6.q3 | exact hS _ _ h5)
        (first
          | (go_at_call 37; refine (pwName hE f.first hf.2 h4d hc1 hpl).mono ?_; rintro y w5 ⟨rfl, h5⟩)
          | (go_at_call 33; refine (pdRemove (nameW pre f.first) h5.p3).mono ?_; rintro y w6 ⟨rfl, h6⟩))
      all_goals
        have h7 := h6.q3
        obtain ⟨k0, k3, _⟩ := hS _ _ h7
        have kf := h7.pt_free 3
        go_wp2_with fail
        go_roundg (gk - 1)
        case measure => have := Hlen.out; omega
        case rel =>
          refine ⟨F', _, m, (HI2.out.pop Hgt.out).1, HFl.out, by have := Hlen.out; omega, by go_num, ?_⟩
          have h8 := wal_init (x := (f, v)) Hm.out hc2 (by rw [HG'.out]; exact Hok.out) h7
          rw [HG'.out] at h8
          exact h8
    · obtain ⟨hk, hcw⟩ := HI2.out.last (room := room) hgt H12.out.1 H12.out.2
      obtain ⟨k, hkk⟩ : ∃ k, fr - f.first = k := ⟨_, rfl⟩
      rw [hkk] at hk hcw
      obtain ⟨ra, rc, hv, hrc, hrm, hrec⟩ := rec_last h4
      subst hv
      obtain ⟨rl, hrl⟩ : ∃ rl, f.recs.length = rl := ⟨_, rfl⟩
      have hrl1 : rl ≤ 1099511627776 := by have := Hok.out.recs f (by simp); have := rs_le f.recs; simp only [WF.size] at *; omega
      obtain ⟨g2, o2, rfl⟩ : ∃ g2 o2, ra = some ⟨g2, o2, none⟩ := by
        obtain ⟨g2, o2, e, _⟩ := hrec 0 _ (List.getElem?_eq_getElem (by omega))
        exact ⟨g2, o2, e⟩
      have hrs1 := HI2.out.recs f (by simp)
      rw [hrl] at hrc hk
      have l1 : ¬ (f.first : Int) > (fr : Int) := by omega
      have l2 : (f.first : Int) ≤ (fr : Int) := by omega
      have ek1 : IntKind.u64.wrap ((fr : Int) - (f.first : Int)) = (k : Int) := by rw [IntKind.wrap_u64]; omega
      have ek2 : IntKind.i64.wrap (k : Int) = (k : Int) := wraps_i64' _ (by omega) (by omega)
      have n1 : (k : Int) ≤ 1099511627776 := by omega
      have n2 : (k : Int) ≤ (rl : Int) := by omega
      have n3 : (rl : Int) ≤ (rc : Int) := by omega
      have n4 : (rc : Int) ≤ 9223372036854775807 := by unfold maxLen at hrm; omega
      have n5 : k ≤ rc := by omega
      have Hcw := Lib.hid hcw
      have Hkk := Lib.hid hkk
      have Hrl := Lib.hid hrl
      have Hrs := Lib.hid hrs1
      have Hrec := Lib.hid hrec
      rw [hrl] at d3
      clear hcw hkk hrl hrs1 hrec hgt h3 H12 HI2 hrm hrc
      go_wp2_with fail
      go_quiet (fail)
      have h5 := h4.drewN nq
      generalize wr.drewN nq = w2 at h5 ⊢
      obtain ⟨b0, hb0⟩ : ∃ b0, w2.heap.size = b0 := ⟨_, rfl⟩
      have e1 := (file_at h5.swap Hx.out).1
      simp only at e1
      have h5a := h5.alloc (.cells #[.pointer none, .slice none 0 0] 99)
      have e3 := (file_at h5a.p2 Hx.out).2.2.1
      simp only at e3
      rw [Hrl.out] at e3
      have hbld : Lib.IsBuilderF 99 5 b0 b0 (Lib.byteCells (framesB (f.recs.take 0))) (w2.alloc (.cells #[.pointer none, .slice none 0 0] 99)) := by
        have := Lib.IsBuilderF.of (Lib.fresh_isBuilder 99 5 w2)
        rw [hb0] at this
        exact this
      have hbe0 : Below b0 w2 (w2.alloc (.cells #[.pointer none, .slice none 0 0] 99)) := (Below.refl b0 w2).alloc (by omega) _
      have hrecs : ∀ wx, Below b0 w2 wx → ∀ j b, f.recs[j]? = some b → wx.cell? ⟨g2, o2 + j, none⟩ = some (.string (bA b)) := fun wx hbw j b hj => by
        have hs := h5.of_below (w' := wx) (by rw [hb0]; exact hbw)
        obtain ⟨a, c, e, _, _, hr⟩ := rec_last hs
        rw [Hrl.out] at e
        cases e
        obtain ⟨g', o', e, hc⟩ := hr j b hj
        cases e
        exact hc
      have Hb0 := Lib.hid hb0
      clear h4 c0 c3 d1 d3 hb0 h5a
      go_wp2_with fail
      rw [Hb0.out]
      go_loopg [99] (k + 1) (fun gh v99 wx => ∃ i : Nat, i ≤ k ∧ k + 1 ≤ i + gh ∧ v99 = .int .i64 (i : Int) ∧ Lib.IsBuilderF 99 5 b0 b0 (Lib.byteCells (framesB (f.recs.take i))) wx ∧ Below b0 w2 wx)
      case atStart => exact ⟨0, by omega, by omega, rfl, hbld, hbe0⟩
      case round =>
        clear hbld hbe0 e1 e3
        obtain ⟨i, hi1, hi2, rfl, hbf, hbw⟩ := hrel
        have hsz : b0 ≤ wr.heap.size := by have := hbw.size; rw [Hb0.out] at this; exact this
        by_cases hi : i < k
        · obtain ⟨r, hr⟩ : ∃ r, f.recs[i]? = some r := ⟨_, List.getElem?_eq_getElem (by rw [Hrl.out]; omega)⟩
          have cr := hrecs _ hbw i r hr
          have hrlen := Hrs.out r (List.mem_of_getElem? hr)
          have hfrm := psFrame r hrlen (Sat.start wr)
          have i1 : (i : Int) < (k : Int) := by omega
          have htk : f.recs.take (i + 1) = f.recs.take i ++ [r] := by rw [List.take_add_one, hr]; rfl
          have hfl : framesB (f.recs.take (i + 1)) = framesB (f.recs.take i) ++ frameB r := by rw [htk, frames_app]; simp [framesB]
          have hwr : ∀ w', Sat wr [] w' → Calls Tryz.prog 47 #[.pointer (some ⟨b0, 0, none⟩), .string (bA (frameB r))] w' fun e w'' => e = .returned (.tuple #[.int .i64 ((bA (frameB r)).size : Int), .nilIface]) ∧ Lib.IsBuilderF 99 5 b0 b0 (Lib.byteCells (framesB (f.recs.take (i + 1)))) w'' ∧ Below b0 w2 w'' := fun w' hs => by
            have hb' := bf_below hbf hs.below
            have hbl := hbw.trans (hs.below.mono hsz)
            have hle : (framesB (f.recs.take (i + 1))).length ≤ 1099511627776 := by
              have h8 := Hok.out.recs f (by simp)
              have h9 : framesB f.recs = framesB (f.recs.take (i + 1)) ++ framesB (f.recs.drop (i + 1)) := by rw [← frames_app, List.take_append_drop]
              have h10 := congrArg List.length h9
              rw [List.length_append, frames_len, frames_len] at h10
              rw [frames_len]
              simp only [WF.size] at h8
              omega
            rw [hfl, List.length_append] at hle
            have hsf : (bA (frameB r)).size = (frameB r).length := by simp [ByteArray.size]
            refine (Any.Builder_WriteString_f { Tryz.lays105 with } Tryz.Builder_Extra_105 b0 b0 _ (bA (frameB r)) w' hb' (by rw [Lib.byteCells_length, hsf]; omega) (by have := hs.below.size; omega)).mono ?_
            rintro e w'' ⟨rfl, h7, h8⟩
            refine ⟨rfl, ?_, hbl.trans h8⟩
            rw [hfl, Lib.byteCells_append]
            exact .inr h7
          have Hhi := Lib.hid (And.intro hi hi2)
          clear hr hrlen htk hfl hbf hbw hi2 hi
          go_wp2_with (first
            | (go_at_call 41; refine hfrm.mono ?_; rintro y w5 ⟨rfl, h6⟩)
            | (go_at_call 47; refine (hwr _ h6).mono ?_; rintro y w6 ⟨rfl, h7, h8⟩))
          go_roundg (gk - 1)
          case measure => have := Hhi.out; omega
          case rel => exact ⟨i + 1, by have := Hhi.out; omega, by have := Hhi.out; omega, by go_num, h7, h8⟩
        · obtain rfl : i = k := by omega
          have hle : (framesB (f.recs.take i)).length ≤ 1099511627776 := by
            have h8 := Hok.out.recs f (by simp)
            have h9 : framesB f.recs = framesB (f.recs.take i) ++ framesB (f.recs.drop i) := by rw [← frames_app, List.take_append_drop]
            have h10 := congrArg List.length h9
            rw [List.length_append, frames_len, frames_len] at h10
            rw [frames_len]
            simp only [WF.size] at h8
            omega
          obtain ⟨bs, hbs⟩ : ∃ bs, framesB (f.recs.take i) = bs := ⟨_, rfl⟩
          have hcw := Hcw.out
          rw [hbs] at hbf hle hcw
          have h6 := h5.of_below (w' := wr) (by rw [Hb0.out]; exact hbw)
          have hS : ∀ w', Sat B (pt q (wlC p pre most (.slice (some ⟨g, off, none⟩) (m + 1) c)) :: row 87 3 (.slice (some ⟨g, off, none⟩) (m + 1) c) (m + 1) ((G' ++ [(f, Value.slice (some ⟨g2, o2, none⟩) f.recs.length rc)]).flatMap wfC) :: stars ((G' ++ [(f, Value.slice (some ⟨g2, o2, none⟩) f.recs.length rc)]).map recP) :: disk p room D1 :: L) w' →
              w'.cell? ⟨g, off + m * 3, none⟩ = some (.int .u64 (f.first : Int)) := fun w' h' => (file_at h'.swap Hx.out).1
          have hstr : Calls Tryz.prog 48 #[.pointer (some ⟨b0, 0, none⟩)] wr.drew fun e w' => e = .returned (.string (bA bs)) ∧ ∃ pv a' c', Sat B (disk p room D1 :: pt b0 (.cells #[pv, .slice a' bs.length c'] 99) :: pt q (wlC p pre most (.slice (some ⟨g, off, none⟩) (m + 1) c)) :: row 87 3 (.slice (some ⟨g, off, none⟩) (m + 1) c) (m + 1) ((G' ++ [(f, Value.slice (some ⟨g2, o2, none⟩) f.recs.length rc)]).flatMap wfC) :: stars ((G' ++ [(f, Value.slice (some ⟨g2, o2, none⟩) f.recs.length rc)]).map recP) :: L) w' := by
            refine (Tryz.Builder_String_any_f b0 b0 bs wr.drew (show Lib.IsBuilderF 99 5 b0 b0 (Lib.byteCells bs) wr from hbf) hsz).mono ?_
            rintro e w' ⟨rfl, h7, h8⟩
            refine ⟨rfl, ?_⟩
            obtain ⟨_, pv, a', c', hblk⟩ := bf_block h7 (Lib.byteCells_length _)
            have h9 := h5.of_pt (w' := w') (k := b0) (by rw [Hb0.out]; exact hbw.drew.trans h8) (by rw [Hb0.out]; exact Nat.le_refl _) hblk
            exact ⟨pv, a', c', h9.p4⟩
          have d1 := hS _ h6.drew
          have hbl : bs.length ≤ 9223372036854775807 := by omega
          obtain ⟨z, hz⟩ : ∃ z, anewW room D1 pre f.first bs = z := ⟨_, rfl⟩
          rw [hz] at hcw
          have Hcw2 := Lib.hid hcw
          have Hz := Lib.hid hz
          have Hbs := Lib.hid hbs
          have Hle := Lib.hid hle
          clear hcw hz hbs hle hbf hbw h6 hi2 hi hrecs h5 Hcw
          go_wp2_with fail
          go_region_held3 (fun w' => w'.cell? ⟨g, off + m * 3, none⟩ = some (.int .u64 (f.first : Int)))
            (first | exact d1 | exact (file_at h8.p3 Hx.out).1 | exact (file_at h7.p3 Hx.out).1)
            (first
              | (go_at_call 48; refine hstr.mono ?_; rintro y w7 ⟨rfl, pv, a', c', h7⟩)
              | (go_at_call 38; refine (pwAnew hE (fun D' w' h' => ⟨h'.p2.pt_cell 0, h'.p2.pt_cell 1⟩) hf hpl hbl h7).mono ?_; rintro y w8 ⟨rfl, h8⟩))
          rw [Hz.out] at h8 ⊢
          obtain ⟨z1, D2⟩ := z
          have hcw := Hcw2.out
          simp only at h8 hcw ⊢
          by_cases h0 : z1 = 0
          · subst h0
            rw [if_pos rfl] at hcw
            have Hcw3 := Lib.hid hcw
            clear hcw d1 hS hstr h7
            have cb : w8.cell? ⟨b0, 1, none⟩ = some (.slice a' bs.length c') := h8.swap.pt_cell 1
            have hln := fun k' => pbLen (w := w8.drewN k') (b := b0) (n := bs.length) (a := a') (c := c') cb
            have h9 := h8.swap.drop.q3
            have e3 := (file_at h9.swap Hx.out).2.2.1
            simp only at e3
            rw [Hrl.out] at e3
            go_wp2_with fail
            have e2 := (file_at h9.swap Hx.out).2.1
            simp only at e2
            have kf1 : w8.frozen? ⟨g, off + m * 3 + 1, none⟩ = false := by
              obtain ⟨_, _, e, _, kf, _⟩ := h9.swap.row_cell (m * 3 + 1) (by omega)
              cases e
              rw [Nat.add_assoc]; exact kf
            have kf2 : w8.frozen? ⟨g, off + m * 3 + 2, none⟩ = false := by
              obtain ⟨_, _, e, _, kf, _⟩ := h9.swap.row_cell (m * 3 + 2) (by omega)
              cases e
              rw [Nat.add_assoc]; exact kf
            have hln0 := pbLen (w := w8.drew) (b := b0) (n := bs.length) (a := a') (c := c') cb
            clear hln
            go_region_with (first | (go_at_call 49; refine hln0.mono ?_; rintro y w9 ⟨rfl, rfl⟩))
            all_goals
              have h9' := h9
              rw [Hrl.out] at h9'
              have hwc := wal_cut (w := w8) (k := i) (rc := rc) Hm.out Hrl.out (by omega) (by omega) (by rw [HG'.out]; exact Hok.out) h9'
              rw [Hbs.out, HG'.out] at hwc
              go_wp2_with fail
              go_ret
              unfold CutPost
              rw [Hcw3.out]
              exact ⟨rfl, hwc.drew⟩
          · rw [if_neg h0] at hcw
            have b8 : (z1 == 0) = false := by simpa using h0
            have b9 : (z1 != 0) = true := by simpa using h0
            have h9 := h8.swap.drop.q3
            have h10 := wal_close (G := G' ++ [(f, Value.slice (some ⟨g2, o2, none⟩) f.recs.length rc)]) (fv := .slice (some ⟨g, off, none⟩) (m + 1) c) (by rw [List.map_append, HG'.out]; rfl) Hok.out (by rw [Hl.out]; exact h9)
            have Hcw3 := Lib.hid hcw
            clear hcw d1 hS hstr h7 h8 h9
            go_wp2_with fail
            go_ret
            unfold CutPost
            rw [Hcw3.out]
            exact ⟨rfl, h10⟩
/-- 'Cut'. -/
theorem pwCut (hE : Env B) (hch : chainW none F) (hrs : ∀ g ∈ F, ∀ r ∈ g.recs, r.length ≤ 1048576) (hfr : fr ≤ 18446744073709551615) (h : Sat B (wal q p pre most F :: disk p room D :: L) w) :
    Calls Tryz.prog 21 #[.pointer (some ⟨q, 0, none⟩), .int .u64 (fr : Int)] w (CutPost B L q p most room pre D F fr) := by
  by_cases h1 : fr < firstW F
  · exact pwCut_low h1 hfr h
  · by_cases h2 : nextW F ≤ fr
    · exact pwCut_high (by omega) h2 hfr h
    · exact pwCut_in hE hch hrs (by omega) (by omega) hfr h
end
end Go.Proofs.YtdngjkjoahgelaaGreatDoor
