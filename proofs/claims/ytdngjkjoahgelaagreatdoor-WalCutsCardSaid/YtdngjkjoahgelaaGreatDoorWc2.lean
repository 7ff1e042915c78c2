/-
  wal: Cut: what its walk needs: the last file left off, the builder's keeping, Cut in plain Lean.
-/
import Derived.Test.YtdngjkjoahgelaaGreatDoorWc1
import Derived.Lib.FrozenHead
namespace Go.Proofs.YtdngjkjoahgelaaGreatDoor
set_option linter.all false
set_option maxRecDepth 100000
set_option maxHeartbeats 1000000
open Go.RowKit
theorem bf_below {b0 b : Nat} {bs : List Value} {w w' : World} (h : Lib.IsBuilderF 99 5 b0 b bs w) (hb : Below w.heap.size w w') : Lib.IsBuilderF 99 5 b0 b bs w' := by
  have key : ∀ p, Lib.BuilderAtF 99 5 b0 b p bs w → Lib.BuilderAtF 99 5 b0 b p bs w' := fun p h => by
    obtain ⟨hB, v, hbk, ⟨hl, ho⟩, hne⟩ := h
    refine ⟨hB, v, (hb.block b (Array.getElem?_eq_some_iff.1 hbk).1).trans hbk, ⟨hl, ?_⟩, hne⟩
    rcases ho with ho | ⟨g, cap, cur, fz, hv, hg, hc, h1, h2, h3, h4, h5⟩
    · exact .inl ho
    · exact .inr ⟨g, cap, cur, fz, hv, hg, (hb.block g (Array.getElem?_eq_some_iff.1 hc).1).trans hc, h1, h2, h3, h4, h5⟩
  rcases h with h | h
  · exact .inl (key _ h)
  · exact .inr (key _ h)
theorem bf_block {b0 b n : Nat} {bs : List Value} {w : World} (h : Lib.IsBuilderF 99 5 b0 b bs w) (hn : bs.length = n) : b0 ≤ b ∧ ∃ pv a c, w.heap[b]? = some (.cells #[pv, .slice a n c] 99) := by
  subst hn
  have key : ∀ p, Lib.BuilderAtF 99 5 b0 b p bs w → b0 ≤ b ∧ ∃ pv a c, w.heap[b]? = some (.cells #[pv, .slice a bs.length c] 99) := fun p h => by
    obtain ⟨hB, v, hbk, ⟨hl, ho⟩, hne⟩ := h
    rcases ho with ⟨rfl, e⟩ | ⟨g, cap, cur, fz, rfl, _⟩
    · rw [e]; exact ⟨hB, _, _, _, hbk⟩
    · exact ⟨hB, _, _, _, hbk⟩
  rcases h with h | h
  · exact key _ h
  · exact key _ h
section
variable {B w w' : World} {L M : List HP} {q p most room fr : Nat} {pre : Bt} {D D1 : Fls} {F F' : List WF} {f : WF}
theorem Sat.of_pt (h : Sat B L w) (hb : Below w.heap.size w w') {k : Nat} {o : Obj} (hk : w.heap.size ≤ k) (ho : w'.heap[k]? = some o) : Sat B (pt k o :: L) w' := by
  refine (Sat.fact_in (p := True) trivial h).turn hb.os hb.tape hb.output hb.size fun a _ h2 => ?_
  refine ⟨fun i => if i = k then some o else none, by simp [pt], fun i o' ek => ?_, fun i hi _ => hb.block i hi⟩
  simp only [] at ek
  split at ek
  · rename_i hi; subst hi; cases ek; exact ⟨ho, .inr hk⟩
  · cases ek
theorem cutBack_pop (h : fr < f.first) : cutBack pre fr (F' ++ [f]).reverse D = cutBack pre fr F'.reverse (removeD D (nameW pre f.first)).2 := by
  rw [List.reverse_append]; simp [cutBack, h]
theorem cutBack_end (h : ¬ fr < f.first) : cutBack pre fr (F' ++ [f]).reverse D = (D, f :: F'.reverse) := by
  rw [List.reverse_append]; simp [cutBack, h]
/-- What stands while files are taken off. -/
structure CutI (pre : Bt) (fr : Nat) (F : List WF) (D : Fls) (F1 : List WF) (D1 : Fls) : Prop where
  eq : cutBack pre fr F.reverse D = cutBack pre fr F1.reverse D1
  ne : F1 ≠ []
  chain : chainW none F1
  low : firstW F1 ≤ fr
  high : fr < nextW F1
  recs : ∀ g ∈ F1, ∀ r ∈ g.recs, r.length ≤ 1048576
theorem CutI.pop (h : CutI pre fr F D (F' ++ [f]) D1) (hf : fr < f.first) : CutI pre fr F D F' (removeD D1 (nameW pre f.first)).2 ∧ F' ≠ [] := by
  have hne : F' ≠ [] := by
    rintro rfl
    have := h.low
    simp [firstW] at this
    omega
  have hc := h.chain
  rw [chain_app] at hc
  refine ⟨⟨by rw [h.eq, cutBack_pop hf], hne, hc.1, by have := h.low; rwa [first_app hne] at this, ?_, fun g hg => h.recs g (List.mem_append_left _ hg)⟩, hne⟩
  obtain ⟨G, g, rfl⟩ := (snoc_cases F').resolve_left hne
  rw [nextW_snoc]
  have h2 := hc.2.1
  have e : lastNx none (G ++ [g]) = some g.next := by simp [lastNx]
  rw [e] at h2
  have := Option.some.inj (h2.resolve_left (by simp))
  omega
theorem CutI.last (h : CutI pre fr F D (F' ++ [f]) D1) (hf : ¬ fr < f.first) (h1 : firstW F ≤ fr) (h2 : fr < nextW F) :
    fr - f.first < f.recs.length ∧ cutW room pre D F fr = if (anewW room D1 pre f.first (framesB (f.recs.take (fr - f.first)))).1 = 0 then (0, (anewW room D1 pre f.first (framesB (f.recs.take (fr - f.first)))).2, F' ++ [⟨f.first, f.recs.take (fr - f.first)⟩])
      else ((anewW room D1 pre f.first (framesB (f.recs.take (fr - f.first)))).1, (anewW room D1 pre f.first (framesB (f.recs.take (fr - f.first)))).2, F' ++ [f]) := by
  refine ⟨by have := h.high; rw [nextW_snoc] at this; simp only [WF.next] at this; omega, ?_⟩
  rw [cutW, if_neg (by omega), if_neg (by omega), h.eq, cutBack_end hf]
  simp
theorem cutW_low (h : fr < firstW F) : cutW room pre D F fr = (2, D, F) := by rw [cutW, if_pos h]
theorem cutW_high (h1 : firstW F ≤ fr) (h : nextW F ≤ fr) : cutW room pre D F fr = (0, D, F) := by rw [cutW, if_neg (by omega), if_pos h]
/-- The last file is left off. -/
theorem wal_init {g off m c : Nat} {x : WF × Value} {G : List (WF × Value)} (hm : G.length = m) (hc : m + 1 ≤ c) (hok : WOk pre (G.map (·.1) ++ [x.1]))
    (h : Sat B (pt q (wlC p pre most (.slice (some ⟨g, off, none⟩) (m + 1) c)) :: row 87 3 (.slice (some ⟨g, off, none⟩) (m + 1) c) (m + 1) ((G ++ [x]).flatMap wfC) :: stars ((G ++ [x]).map recP) :: L) w) :
    Sat B (wal q p pre most (G.map (·.1)) :: L) (w.setCell ⟨q, 3, none⟩ (.slice (some ⟨g, off, none⟩) m c)) := by
  have h1 := h.set (j := 3) (.slice (some ⟨g, off, none⟩) m c)
  have h2 : Sat B (row 87 3 (.slice (some ⟨g, off, none⟩) m c) m (((G ++ [x]).flatMap wfC).take (m * 3)) :: pt q (wlC p pre most (.slice (some ⟨g, off, none⟩) m c)) :: stars ((G ++ [x]).map recP) :: L) _ :=
    h1.swap.row_take m c (by omega) (by omega) (by omega)
  have e1 : ((G ++ [x]).flatMap wfC).take (m * 3) = G.flatMap wfC := by
    have hl := wf_len G
    rw [hm] at hl
    rw [List.flatMap_append, ← hl, List.take_left]
  rw [e1] at h2
  have h3 := h2.p2
  rw [List.map_append] at h3
  have h4 : Sat B (recP x :: stars (G.map recP ++ []) :: _) _ := Sat.mid (L2 := []) h3
  have h5 := h4.drop
  rw [List.append_nil] at h5
  subst hm
  exact wal_close (fv := .slice (some ⟨g, off, none⟩) G.length c) rfl ⟨hok.pre, fun f hf => hok.first f (List.mem_append_left _ hf), fun f hf => hok.recs f (List.mem_append_left _ hf), by have := hok.many; simp at this ⊢; omega⟩ h5.swap.p2
theorem rec_take {g2 o2 rc rl k : Nat} (hrl : f.recs.length = rl) (hk : k ≤ rl) (hrc : rl ≤ rc) (h : Sat B (recP (f, Value.slice (some ⟨g2, o2, none⟩) rl rc) :: M) w) : Sat B (recP (⟨f.first, f.recs.take k⟩, Value.slice (some ⟨g2, o2, none⟩) k k) :: M) w := by
  subst hrl
  have h4 : Sat B (row 9 1 (.slice (some ⟨g2, o2, none⟩) f.recs.length rc) f.recs.length (strB f.recs) :: M) w := h
  have h5 := h4.row_take k k hk (Nat.le_refl _) (by omega)
  have e2 : (strB f.recs).take (k * 1) = strB (f.recs.take k) := by simp [strB]
  have e3 : (f.recs.take k).length = k := by simp; omega
  show Sat B (row 9 1 (.slice (some ⟨g2, o2, none⟩) k k) (f.recs.take k).length (strB (f.recs.take k)) :: M) w
  rw [e3, ← e2]
  exact h5
/-- The last file's records are cut. -/
theorem wal_cut {g off m c g2 o2 rc rl k : Nat} {G : List (WF × Value)} (hm : G.length = m) (hrl : f.recs.length = rl) (hk : k ≤ rl) (hrc : rl ≤ rc) (hok : WOk pre (G.map (·.1) ++ [f]))
    (h : Sat B (pt q (wlC p pre most (.slice (some ⟨g, off, none⟩) (m + 1) c)) :: row 87 3 (.slice (some ⟨g, off, none⟩) (m + 1) c) (m + 1) ((G ++ [(f, Value.slice (some ⟨g2, o2, none⟩) rl rc)]).flatMap wfC) :: stars ((G ++ [(f, Value.slice (some ⟨g2, o2, none⟩) rl rc)]).map recP) :: L) w) :
    Sat B (wal q p pre most (G.map (·.1) ++ [⟨f.first, f.recs.take k⟩]) :: L) ((w.setCell ⟨g, off + m * 3 + 1, none⟩ (.int .i64 ((framesB (f.recs.take k)).length : Int))).setCell ⟨g, off + m * 3 + 2, none⟩ (.slice (some ⟨g2, o2, none⟩) k k)) := by
  have h1 := h.swap.row_set (m * 3 + 1) (by omega) (u := .int .i64 ((framesB (f.recs.take k)).length : Int)) rfl
  have h2 := h1.row_set (m * 3 + 2) (by omega) (u := .slice (some ⟨g2, o2, none⟩) k k) rfl
  have e := wf_set G (f := f) (f' := ⟨f.first, f.recs.take k⟩) (.slice (some ⟨g2, o2, none⟩) rl rc) (u := .int .i64 ((framesB (f.recs.take k)).length : Int)) (v' := .slice (some ⟨g2, o2, none⟩) k k) rfl (by rw [frames_len])
  rw [hm] at e
  rw [e, ← Nat.add_assoc, ← Nat.add_assoc] at h2
  have h3 := h2.p2
  rw [List.map_append] at h3
  have h4 : Sat B (recP (f, Value.slice (some ⟨g2, o2, none⟩) rl rc) :: stars (G.map recP ++ []) :: _) _ := Sat.mid (L2 := []) h3
  have h6 := rec_take hrl hk hrc h4
  have h7 : Sat B (stars (G.map recP ++ [recP (⟨f.first, f.recs.take k⟩, Value.slice (some ⟨g2, o2, none⟩) k k)]) :: _) _ := Sat.mid' (L2 := []) h6
  subst hm
  refine wal_close (G := G ++ [(⟨f.first, f.recs.take k⟩, Value.slice (some ⟨g2, o2, none⟩) k k)]) (fv := .slice (some ⟨g, off, none⟩) (G.length + 1) c) (by simp) ⟨hok.pre, fun x hx => ?_, fun x hx => ?_, by have := hok.many; simp at this ⊢; omega⟩ ?_
  · rcases List.mem_append.1 hx with hx | hx
    · exact hok.first x (List.mem_append_left _ hx)
    · obtain rfl := List.mem_singleton.1 hx
      exact hok.first f (List.mem_append_right _ (List.mem_singleton.2 rfl))
  · rcases List.mem_append.1 hx with hx | hx
    · exact hok.recs x (List.mem_append_left _ hx)
    · obtain rfl := List.mem_singleton.1 hx
      have h8 := hok.recs f (List.mem_append_right _ (List.mem_singleton.2 rfl))
      have h9 : framesB f.recs = framesB (f.recs.take k) ++ framesB (f.recs.drop k) := by rw [← frames_app, List.take_append_drop]
      have h10 := congrArg List.length h9
      rw [List.length_append, frames_len, frames_len] at h10
      simp only [WF.size] at h8 ⊢
      omega
  · rw [List.map_append, List.length_append]
    exact h7.swap.p2
/-- '(strings.Builder).Len' of a builder that lies as a block. -/
theorem pbLen {b n : Nat} {a : Option Addr} {c : Nat} (hc : w.cell? ⟨b, 1, none⟩ = some (.slice a n c)) : Calls Tryz.prog 49 #[.pointer (some ⟨b, 0, none⟩)] w fun y w' => y = .returned (.int .i64 (n : Int)) ∧ w' = w := by
  go_enter Tryz.func49, Tryz.ntmps49
  go_wp2_with fail
  go_ret
  exact ⟨rfl, rfl⟩
end
end Go.Proofs.YtdngjkjoahgelaaGreatDoor
