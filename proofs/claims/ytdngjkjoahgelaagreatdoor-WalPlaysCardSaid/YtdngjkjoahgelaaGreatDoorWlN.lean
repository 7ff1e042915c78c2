/-
  Logs, in plain Lean: Drop and Cut keep the invariant of a log.
-/
import Derived.Test.YtdngjkjoahgelaaGreatDoorWlA
namespace Go.Proofs.YtdngjkjoahgelaaGreatDoor
set_option linter.all false
section
variable {room most : Nat} {p : Bt} {D D' : Fls} {F G : List WF}
theorem chain_weak {nx : Option Nat} {F : List WF} (h : chainW nx F) : chainW none F := by
  cases F with
  | nil => trivial
  | cons f F => exact ⟨.inl rfl, h.2⟩
theorem Log.rem (h : Log room p D F) {n : Nat} (hn : inR n) (x : Nat) (hx : inR x) : getF (nameW p x) (removeD D (nameW p n)).2 = if n = x then none else getF (nameW p x) D := by
  rw [getF_remove h.ok]
  by_cases e : n = x
  · subst e; simp
  · rw [if_neg e, if_neg fun e' => e (name_inj hn.2 hx.2 e')]
theorem Log.rem_tmp (h : Log room p D F) {n : Nat} (hn : inR n) : getF (tmpW p) (removeD D (nameW p n)).2 = none := by
  rw [getF_remove h.ok, if_neg (Ne.symm (tmp_ne hn)), h.tmp]
theorem Log.tail {f : WF} (h : Log room p D (f :: F)) : Log room p (removeD D (nameW p f.first)).2 F := by
  have hf := h.rng f (by simp)
  have ha := h.asc
  rw [List.map_cons] at ha
  obtain ⟨h1, h2⟩ := List.pairwise_cons.1 ha
  refine ⟨h.ok.remove _, h.pre, fun g hg => h.rng g (by simp [hg]), chain_weak h.chain.2, h2, fun g hg => h.recs g (by simp [hg]), fun g hg => ?_, fun n hn hs => ?_, h.rem_tmp hf⟩
  · have := h1 g.first (List.mem_map.2 ⟨g, hg, rfl⟩)
    rw [h.rem hf _ (h.rng g (by simp [hg])), if_neg (by omega)]
    exact h.has g (by simp [hg])
  · rw [h.rem hf _ hn] at hs
    split at hs
    · cases hs
    · rename_i hne
      have := h.only n hn hs
      rw [List.map_cons] at this
      rcases List.mem_cons.1 this with e | e
      · exact absurd e.symm hne
      · exact e
theorem Log.init {f : WF} (h : Log room p D (G ++ [f])) : Log room p (removeD D (nameW p f.first)).2 G := by
  have hf := h.rng f (by simp)
  have ha := h.asc
  rw [List.map_append] at ha
  have hlt : ∀ g ∈ G, g.first < f.first := fun g hg => asc_last ha g.first (List.mem_map.2 ⟨g, hg, rfl⟩)
  have hc := h.chain
  rw [chain_app] at hc
  refine ⟨h.ok.remove _, h.pre, fun g hg => h.rng g (by simp [hg]), hc.1, (List.pairwise_append.1 ha).1, fun g hg => h.recs g (by simp [hg]), fun g hg => ?_, fun n hn hs => ?_, h.rem_tmp hf⟩
  · have := hlt g hg
    rw [h.rem hf _ (h.rng g (by simp [hg])), if_neg (by omega)]
    exact h.has g (by simp [hg])
  · rw [h.rem hf _ hn] at hs
    split at hs
    · cases hs
    · rename_i hne
      have := h.only n hn hs
      rw [List.map_append] at this
      rcases List.mem_append.1 this with e | e
      · exact e
      · simp at e; exact absurd e.symm hne
theorem Log.rem_sync (h : Log room p D F) {f g : WF} (hf : inR f.first) (hg : inR g.first) (hne : f.first ≠ g.first) (hs : syncedOf (nameW p g.first) D = g.size) : syncedOf (nameW p g.first) (removeD D (nameW p f.first)).2 = g.size := by
  unfold syncedOf at hs ⊢
  rw [h.rem hf _ hg, if_neg hne]; exact hs
/-- 'Drop'. -/
theorem Log.drop' (to : Nat) : ∀ {F : List WF} {D : Fls}, Log room p D F → ∃ D' F', dropW p to F D = (D', F') ∧ Log room p D' F' ∧ (SyncTo p D F → SyncTo p D' F') ∧ usedD D' ≤ usedD D ∧ nextW F' = nextW F ∧ firstW F ≤ firstW F' ∧ firstW F' ≤ max to (firstW F) ∧
    recsW F' = (recsW F).drop (firstW F' - firstW F) ∧ F'.length ≤ F.length
  | [], D, h => ⟨D, [], rfl, h, id, Nat.le_refl _, rfl, Nat.le_refl _, Nat.le_max_right _ _, by simp, Nat.le_refl _⟩
  | [f], D, h => ⟨D, [f], rfl, h, id, Nat.le_refl _, rfl, Nat.le_refl _, Nat.le_max_right _ _, by simp, Nat.le_refl _⟩
  | f :: g :: F, D, h => by
    by_cases hg : g.first ≤ to
    · obtain ⟨D', F', h1, h2, h3, h4, h5, h6, h7, h8, h9⟩ := Log.drop' to h.tail
      have hch := h.chain
      have hfg : g.first = f.next := (Option.some.inj (hch.2.1.resolve_left (by simp))).symm
      have e1 : firstW (g :: F) = g.first := rfl
      have e2 : firstW (f :: g :: F) = f.first := rfl
      have e3 : recsW (f :: g :: F) = f.recs ++ recsW (g :: F) := by simp [recsW]
      have hu := used_remove_le (m := nameW p f.first) h.ok
      simp only [WF.next] at hfg
      rw [e1] at h6 h7 h8
      refine ⟨D', F', by rw [dropW, if_pos hg, h1], h2, fun hs => h3 fun x hx => ?_, by omega, by rw [h5]; simp [nextW, List.getLast?_cons_cons], by rw [e2]; omega, by rw [e2]; omega, ?_, by simp at h9 ⊢; omega⟩
      · have ha := h.asc
        rw [List.map_cons] at ha
        have := (List.pairwise_cons.1 ha).1 x.first (List.mem_map.2 ⟨x, hx, rfl⟩)
        exact h.rem_sync (h.rng f (by simp)) (h.rng x (by simp at hx ⊢; exact .inr hx)) (by omega) (hs x (by simp at hx ⊢; exact .inr hx))
      · rw [h8, e3, e2]
        have : firstW F' - f.first = f.recs.length + (firstW F' - g.first) := by omega
        rw [this, ← List.drop_drop, List.drop_left]
    · exact ⟨D, f :: g :: F, by rw [dropW, if_neg hg], h, id, Nat.le_refl _, rfl, Nat.le_refl _, Nat.le_max_right _ _, by simp, Nat.le_refl _⟩
/-- The last file written anew. -/
theorem Log.anew {f : WF} (h : Log room p D (G ++ [f])) (rs : List Bt) (hrs : ∀ b ∈ rs, b.length ≤ 1048576) (hu : usedD D + goodB rs ≤ room) :
    (anewW room D p f.first (framesB rs)).1 = 0 ∧ Log room p (anewW room D p f.first (framesB rs)).2 (G ++ [⟨f.first, rs⟩]) ∧ (SyncTo p D G → SyncTo p (anewW room D p f.first (framesB rs)).2 (G ++ [⟨f.first, rs⟩])) ∧
    usedD (anewW room D p f.first (framesB rs)).2 ≤ usedD D + goodB rs := by
  have hmem : f ∈ G ++ [f] := by simp
  have hinr := h.rng f hmem
  obtain ⟨a1, a2, a3, a4⟩ := anew_ok h.ok h.pre hinr (framesB rs) (by rw [frames_len]; exact hu)
  have ha := h.asc
  rw [List.map_append] at ha
  have hlt : ∀ g ∈ G, g.first < f.first := fun g hg => asc_last ha g.first (List.mem_map.2 ⟨g, hg, rfl⟩)
  have hgne : ∀ g ∈ G, nameW p f.first ≠ nameW p g.first := fun g hg e => by
    have := hlt g hg
    have := name_inj hinr.2 (h.rng g (by simp [hg])).2 e
    omega
  have hg3 : ∀ g ∈ G, getF (nameW p g.first) (anewW room D p f.first (framesB rs)).2 = getF (nameW p g.first) D := fun g hg => by
    rw [a4, if_neg (hgne g hg), if_neg (tmp_ne (h.rng g (by simp [hg])))]
  have hch := h.chain
  rw [chain_app] at hch
  refine ⟨a1, ⟨a2, h.pre, ?_, ?_, ?_, ?_, ?_, ?_, ?_⟩, ?_, by rw [← frames_len]; exact a3⟩
  · intro g hg
    rcases List.mem_append.1 hg with hg | hg
    · exact h.rng g (by simp [hg])
    · simp at hg; subst hg; exact hinr
  · rw [chain_app]; exact ⟨hch.1, hch.2.1, trivial⟩
  · rw [List.map_append]; exact ha
  · intro g hg b hb
    rcases List.mem_append.1 hg with hg | hg
    · exact h.recs g (by simp [hg]) b hb
    · simp at hg; subst hg; exact hrs b hb
  · intro g hg
    rcases List.mem_append.1 hg with hg | hg
    · rw [hg3 g hg]; exact h.has g (by simp [hg])
    · simp at hg; subst hg; exact ⟨_, by rw [a4, if_pos rfl]⟩
  · intro n hi hx'
    rw [List.map_append, List.mem_append]
    rw [a4] at hx'
    split at hx'
    · rename_i e; right; rw [name_inj hinr.2 hi.2 e]; simp
    · split at hx'
      · cases hx'
      · have := h.only n hi hx'
        rw [List.map_append, List.mem_append] at this
        exact this
  · rw [a4, if_neg (Ne.symm (tmp_ne hinr)), if_pos rfl]
  · intro hs g hg
    rcases List.mem_append.1 hg with hg | hg
    · unfold syncedOf; rw [hg3 g hg]; exact hs g hg
    · simp at hg; subst hg; simp [syncedOf, a4, frames_len]
theorem cutBack_log (fr : Nat) : ∀ {R : List WF} {D : Fls}, Log room p D R.reverse → R ≠ [] → firstW R.reverse ≤ fr → fr < nextW R.reverse →
    ∃ D' f R', cutBack p fr R D = (D', f :: R') ∧ Log room p D' (R'.reverse ++ [f]) ∧ f.first ≤ fr ∧ fr < f.next ∧ firstW (R'.reverse ++ [f]) = firstW R.reverse ∧
      (recsW (R'.reverse ++ [f])).take (fr - firstW R.reverse) = (recsW R.reverse).take (fr - firstW R.reverse) ∧ usedD D' ≤ usedD D ∧ (SyncTo p D R.reverse → SyncTo p D' (R'.reverse ++ [f])) ∧ R'.length + 1 ≤ R.length
  | [], _, _, h, _, _ => absurd rfl h
  | f :: R, D, h, _, h1, h2 => by
    rw [List.reverse_cons] at h h1 h2
    by_cases hf : fr < f.first
    · have hi := h.init
      have hR : R ≠ [] := fun e => by subst e; simp [firstW] at h1; omega
      have hRr : R.reverse ≠ [] := by simpa using hR
      have e1 : firstW (R.reverse ++ [f]) = firstW R.reverse := first_app hRr
      have hch := h.chain
      rw [chain_app] at hch
      have hnx : nextW R.reverse = f.first := by
        rcases snoc_cases R.reverse with e | ⟨G, g, e⟩
        · exact absurd e hRr
        · rw [e] at hch ⊢
          rw [nextW_snoc]
          have := hch.2.1
          simp [lastNx] at this
          exact this
      rw [e1] at h1
      obtain ⟨D', g, R', g1, g2, g3, g4, g5, g6, g7, g8, g9⟩ := cutBack_log fr hi hR h1 (by omega)
      have hu := used_remove_le (m := nameW p f.first) h.ok
      refine ⟨D', g, R', by rw [cutBack, if_pos hf, g1], g2, g3, g4, by rw [g5, List.reverse_cons, e1], ?_, by omega, fun hs => g8 fun x hx => ?_, by simp at g9 ⊢; omega⟩
      · rw [List.reverse_cons, e1, g6, recs_snoc, List.take_append_of_le_length]
        have := next_all hi.chain
        omega
      · rw [List.reverse_cons] at hs
        have ha := h.asc
        rw [List.map_append] at ha
        have : x.first < f.first := asc_last ha x.first (List.mem_map.2 ⟨x, hx, rfl⟩)
        exact h.rem_sync (h.rng f (by simp)) (h.rng x (by simp at hx ⊢; exact .inl hx)) (by omega) (hs x (by simp at hx ⊢; exact .inl hx))
    · rw [nextW_snoc] at h2
      exact ⟨D, f, R, by rw [cutBack, if_neg hf], h, by omega, h2, by rw [List.reverse_cons], by rw [List.reverse_cons], Nat.le_refl _, by rw [List.reverse_cons]; exact id, by simp⟩
/-- 'Cut' from a number that is there. -/
theorem Log.cut (h : Log room p D F) (fr : Nat) (h1 : firstW F ≤ fr) (h2 : fr < nextW F) (hu : 2 * usedD D ≤ room) :
    ∃ D' F', cutW room p D F fr = (0, D', F') ∧ Log room p D' F' ∧ (SyncTo p D F → SyncTo p D' F') ∧ firstW F' = firstW F ∧ recsW F' = (recsW F).take (fr - firstW F) ∧ nextW F' = fr ∧ usedD D' ≤ 2 * usedD D ∧ F'.length ≤ F.length := by
  have hF : F ≠ [] := fun e => by subst e; simp [firstW, nextW] at h1 h2; omega
  obtain ⟨D1, f, R, g1, g2, g3, g4, g5, g6, g7, g8, g9⟩ := cutBack_log (room := room) (p := p) (R := F.reverse) (D := D) fr (by rw [List.reverse_reverse]; exact h) (by simpa using hF) (by rw [List.reverse_reverse]; exact h1) (by rw [List.reverse_reverse]; exact h2)
  rw [List.reverse_reverse] at g5 g6 g8
  have hle : goodB (f.recs.take (fr - f.first)) ≤ usedD D1 := by
    have h3 := good_take_le f.recs (fr - f.first)
    obtain ⟨s, hs⟩ := g2.has f (by simp)
    obtain ⟨l1, l2, e, _⟩ := getBy_some hs
    rw [e, used_mid]
    have : (Fl.mk (nameW p f.first) (framesB f.recs) s).bytes.length = goodB f.recs := frames_len _
    omega
  obtain ⟨a1, a2, a3, a4⟩ := g2.anew (f.recs.take (fr - f.first)) (fun b hb => g2.recs f (by simp) b (List.mem_of_mem_take hb)) (by omega)
  have e1 : firstW (R.reverse ++ [(⟨f.first, f.recs.take (fr - f.first)⟩ : WF)]) = firstW (R.reverse ++ [f]) := by cases R.reverse <;> rfl
  have hn := next_all g2.chain
  rw [nextW_snoc, recs_snoc, List.length_append] at hn
  simp only [WF.next] at hn g4
  have hfl : firstW (R.reverse ++ [f]) + (recsW R.reverse).length = f.first := by omega
  have hrl : (f.recs.take (fr - f.first)).length = fr - f.first := by rw [List.length_take]; omega
  refine ⟨_, R.reverse ++ [⟨f.first, f.recs.take (fr - f.first)⟩], ?_, a2, fun hs => a3 fun x hx => g8 hs x (by simp [hx]), by rw [e1, g5], ?_, ?_, by omega, by simp at g9 ⊢; omega⟩
  · unfold cutW
    rw [if_neg (by omega), if_neg (by omega), g1]
    simp only [a1, if_true]
  · rw [← g6, recs_snoc, recs_snoc]
    have : fr - firstW F = (recsW R.reverse).length + (fr - f.first) := by rw [← g5]; omega
    rw [this, List.take_length_add_append]
  · rw [nextW_snoc]; simp only [WF.next, hrl]; omega
/-- A crash where all is synced. -/
theorem Log.crash_all (h : Log room p D F) (hs : SyncTo p D F) (keep : List Int) : Log room p (crashD keep 0 D) F ∧ openW room (crashD keep 0 D) p = (0, crashD keep 0 D, F) := by
  have hinv : ∀ n, inR n → getF (nameW p n) (crashD keep 0 D) = getF (nameW p n) D := fun n hn => by
    obtain ⟨x, hx⟩ := getF_crash (n := nameW p n) keep h.ok
    rw [hx]
    cases hg : getF (nameW p n) D with
    | none => rfl
    | some y =>
      obtain ⟨f, hf, rfl⟩ := List.mem_map.1 (h.only n hn (by rw [hg]; rfl))
      have h1 := hs f hf
      obtain ⟨s, h2⟩ := h.has f hf
      rw [h2] at hg
      cases hg
      rw [syncedOf_some h2] at h1
      simp only at h1
      rw [Option.map_some, crash_full (by simp only [frames_len]; exact h1)]
  have hl : Log room p (crashD keep 0 D) F := h.move (h.ok.crash keep) (fun n hn => by rw [hinv n hn]) (by obtain ⟨x, hx⟩ := getF_crash (n := tmpW p) keep h.ok; rw [hx, h.tmp]; rfl)
  exact ⟨hl, hl.open'⟩
end
#print axioms Log.cut
end Go.Proofs.YtdngjkjoahgelaaGreatDoor
