/-
  Logs, in plain Lean: the invariant of a log on its disk; Open, Append, Sync, a crash, Drop, Cut keep it.
-/
import Derived.Test.YtdngjkjoahgelaaGreatDoorWlD
namespace Go.Proofs.YtdngjkjoahgelaaGreatDoor
set_option linter.all false
def recsW (F : List WF) : List Bt := F.flatMap (·.recs)
def chainW : Option Nat → List WF → Prop
  | _, [] => True
  | nx, f :: F => (nx = none ∨ nx = some f.first) ∧ chainW (some f.next) F
def lastNx (nx : Option Nat) (G : List WF) : Option Nat := match G.getLast? with
  | none => nx
  | some g => some g.next
theorem lastNx_cons (nx : Option Nat) (f : WF) (G : List WF) : lastNx nx (f :: G) = lastNx (some f.next) G := by
  cases G with
  | nil => rfl
  | cons g G =>
    unfold lastNx
    rw [List.getLast?_cons_cons]
    cases h : (g :: G).getLast? with
    | none => simp at h
    | some x => rfl
theorem chain_app : ∀ {nx : Option Nat} {G H : List WF}, chainW nx (G ++ H) ↔ chainW nx G ∧ chainW (lastNx nx G) H
  | nx, [], H => by simp [chainW, lastNx]
  | nx, f :: G, H => by
    rw [List.cons_append, chainW, chainW, chain_app (nx := some f.next), lastNx_cons, and_assoc]
theorem snoc_cases {α : Type} (l : List α) : l = [] ∨ ∃ l' a, l = l' ++ [a] := by
  rcases List.eq_nil_or_concat l with h | ⟨l', a, h⟩
  · exact .inl h
  · exact .inr ⟨l', a, by simpa using h⟩
theorem recs_snoc (G : List WF) (f : WF) : recsW (G ++ [f]) = recsW G ++ f.recs := by simp [recsW]
theorem first_app {G : List WF} {H : List WF} (h : G ≠ []) : firstW (G ++ H) = firstW G := by cases G with | nil => exact absurd rfl h | cons _ _ => rfl
theorem next_chain : ∀ {F : List WF} {nx : Option Nat}, chainW nx F → F ≠ [] → nextW F = firstW F + (recsW F).length
  | [], _, _, h => absurd rfl h
  | [f], _, _, _ => by simp [nextW, firstW, recsW]
  | f :: g :: F, nx, h, _ => by
    obtain ⟨_, h2⟩ := h
    have ih := next_chain h2 (by simp)
    have h3 := h2.1.resolve_left (by simp)
    have h3 := Option.some.inj h3
    have e1 : nextW (f :: g :: F) = nextW (g :: F) := by simp [nextW, List.getLast?_cons_cons]
    rw [e1, ih]
    show g.first + _ = f.first + (f.recs ++ recsW (g :: F)).length
    rw [← h3, List.length_append]
    show f.first + f.recs.length + _ = _
    omega
theorem next_all {F : List WF} (h : chainW none F) : nextW F = firstW F + (recsW F).length := by
  by_cases h0 : F = []
  · subst h0; rfl
  · exact next_chain h h0
theorem get_chain : ∀ {F : List WF} {nx : Option Nat}, chainW nx F → ∀ n, getW F n = if firstW F ≤ n ∧ n < firstW F + (recsW F).length then (recsW F)[n - firstW F]? else none
  | [], _, _, n => by simp [getW, recsW]
  | f :: F, nx, h, n => by
    obtain ⟨_, h2⟩ := h
    have ih := get_chain h2 n
    have e : recsW (f :: F) = f.recs ++ recsW F := by simp [recsW]
    have e1 : firstW (f :: F) = f.first := rfl
    rw [getW, e, e1, List.length_append]
    by_cases hc : f.first ≤ n ∧ n < f.next
    · have hc2 := hc.2
      simp only [WF.next] at hc2
      rw [if_pos hc, if_pos ⟨hc.1, by omega⟩, List.getElem?_append_left (by omega)]
    · rw [if_neg hc, ih]
      have hF : F ≠ [] → firstW F = f.first + f.recs.length := fun hn => by
        cases F with
        | nil => exact absurd rfl hn
        | cons g F => exact (Option.some.inj (h2.1.resolve_left (by simp))).symm
      by_cases hn : F = []
      · subst hn
        have hz : recsW ([] : List WF) = [] := rfl
        simp only [hz, List.length_nil, Nat.add_zero, List.append_nil]
        simp only [WF.next] at hc
        rw [if_neg (by omega), if_neg hc]
      · have hF := hF hn
        rw [hF]
        simp only [WF.next] at hc
        by_cases h3 : f.first + f.recs.length ≤ n ∧ n < f.first + f.recs.length + (recsW F).length
        · rw [if_pos h3, if_pos (by omega), List.getElem?_append_right (by omega)]
          congr 1; omega
        · rw [if_neg h3, if_neg (by omega)]
/-- A log stands on its disk. -/
structure Log (room : Nat) (p : Bt) (D : Fls) (F : List WF) : Prop where
  ok : DOk room D
  pre : p.length ≤ 48
  rng : ∀ f ∈ F, inR f.first
  chain : chainW none F
  asc : (F.map (·.first)).Pairwise (· < ·)
  recs : ∀ f ∈ F, ∀ b ∈ f.recs, b.length ≤ 1048576
  has : ∀ f ∈ F, ∃ s, getF (nameW p f.first) D = some ⟨nameW p f.first, framesB f.recs, s⟩
  only : ∀ n, inR n → (getF (nameW p n) D).isSome = true → n ∈ F.map (·.first)
  tmp : getF (tmpW p) D = none
def SyncTo (p : Bt) (D : Fls) (F : List WF) : Prop := ∀ f ∈ F, syncedOf (nameW p f.first) D = f.size
/-- All files but the last are synced, and of the last the records up to number k. -/
structure Kept (p : Bt) (D : Fls) (F : List WF) (k : Nat) : Prop where
  old : ∀ G f, F = G ++ [f] → SyncTo p D G
  last : ∀ G f, F = G ++ [f] → goodB (f.recs.take (k + 1 - f.first)) ≤ syncedOf (nameW p f.first) D
section
variable {room most : Nat} {p : Bt} {D D' : Fls} {F G : List WF}
theorem Log.bytes (h : Log room p D F) {f : WF} (hf : f ∈ F) : bytesOf (nameW p f.first) D = framesB f.recs := by obtain ⟨s, hs⟩ := h.has f hf; simp [bytesOf, hs]
theorem scan_all {rs : List Bt} (h : ∀ b ∈ rs, b.length ≤ 1048576) : scanB (framesB rs) = rs := by
  have := scan_frames rs [] h
  rw [List.append_nil] at this
  rw [this, scan_none (openB_short (by simp)), List.append_nil]
theorem go_app : ∀ {G : List WF} {nx : Option Nat} {ns : List Nat}, chainW nx G → (∀ g ∈ G, bytesOf (nameW p g.first) D = framesB g.recs ∧ ∀ b ∈ g.recs, b.length ≤ 1048576) →
    goW room p nx (G.map (·.first) ++ ns) D = ((goW room p (lastNx nx G) ns D).1, (goW room p (lastNx nx G) ns D).2.1, G ++ (goW room p (lastNx nx G) ns D).2.2)
  | [], nx, ns, _, _ => rfl
  | f :: G, nx, ns, hc, hb => by
    obtain ⟨h1, h2⟩ := hc
    obtain ⟨g1, g2⟩ := hb f (by simp)
    have hs := scan_all g2
    have hno : ¬ (nx ≠ none ∧ nx ≠ some f.first) := fun ⟨a, b⟩ => h1.elim a b
    have hlt : ¬ (goodB f.recs < (framesB f.recs).length) := by rw [frames_len]; omega
    rw [List.map_cons, List.cons_append, goW, if_neg hno]
    simp only [g1, hs, if_neg hlt]
    rw [go_app (nx := some f.next) h2 fun g hg => hb g (by simp [hg]), lastNx_cons]
    rfl
theorem Log.nums (h : Log room p D F) : numsW D p = F.map (·.first) := nums_eq h.ok h.asc fun n => ⟨fun hn => by
    obtain ⟨f, hf, rfl⟩ := List.mem_map.1 hn
    obtain ⟨s, hs⟩ := h.has f hf
    exact ⟨h.rng f hf, by rw [hs]; rfl⟩, fun hn => h.only n hn.1 hn.2⟩
theorem remove_none {n : Bt} (h : getF n D = none) : (removeD D n).2 = D := by unfold removeD; rw [h]
theorem Log.open' (h : Log room p D F) : openW room D p = (0, D, F) := by
  unfold openW
  rw [remove_none h.tmp, h.nums]
  have := go_app (room := room) (p := p) (D := D) (ns := []) h.chain fun g hg => ⟨h.bytes hg, h.recs g hg⟩
  rw [List.append_nil] at this
  rw [this]
  simp [goW]
theorem Log.empty {room : Nat} (p : Bt) (hp : p.length ≤ 48) (h : DOk room D) (h1 : ∀ n, getF (nameW p n) D = none) (h2 : getF (tmpW p) D = none) : Log room p D [] :=
  ⟨h, hp, (fun f hf => by cases hf), trivial, List.Pairwise.nil, (fun f hf => by cases hf), (fun f hf => by cases hf), fun n _ hn => (by rw [h1] at hn; cases hn), h2⟩
theorem Log.next_pos (h : Log room p D F) : 1 ≤ nextW F := by
  rw [next_all h.chain]
  cases F with
  | nil => simp [firstW]
  | cons f F => have := (h.rng f (by simp)).1; simp only [firstW]; omega
theorem Log.uniq (h : Log room p D F) {f g : WF} (hf : f ∈ F) (hg : g ∈ F) (e : f.first = g.first) : f = g := by
  have hp := h.asc
  clear h
  induction F with
  | nil => cases hf
  | cons a F ih =>
    rw [List.map_cons] at hp
    obtain ⟨h1, h2⟩ := List.pairwise_cons.1 hp
    rcases List.mem_cons.1 hf with rfl | hf'
    · rcases List.mem_cons.1 hg with rfl | hg'
      · rfl
      · have := h1 g.first (List.mem_map.2 ⟨g, hg', rfl⟩); omega
    · rcases List.mem_cons.1 hg with rfl | hg'
      · have := h1 f.first (List.mem_map.2 ⟨f, hf', rfl⟩); omega
      · exact ih hf' hg' h2
/-- A log whose disk says the same of the log's names. -/
theorem Log.move (h : Log room p D F) (hd : DOk room D') (hx : ∀ n, inR n → (getF (nameW p n) D').map (·.bytes) = (getF (nameW p n) D).map (·.bytes)) (ht : getF (tmpW p) D' = none) : Log room p D' F := by
  refine ⟨hd, h.pre, h.rng, h.chain, h.asc, h.recs, fun f hf => ?_, fun n hn hs => h.only n hn ?_, ht⟩
  · obtain ⟨s, hs⟩ := h.has f hf
    have h1 := hx f.first (h.rng f hf)
    rw [hs] at h1
    cases hg : getF (nameW p f.first) D' with
    | none => rw [hg] at h1; cases h1
    | some x =>
      rw [hg] at h1
      have h2 := getF_name hg
      have h3 := Option.some.inj h1
      obtain ⟨a, b, c⟩ := x
      simp only at h2 h3
      exact ⟨c, by rw [h2, h3]⟩
  · have h1 := congrArg Option.isSome (hx n hn)
    simpa [hs] using h1.symm
theorem syncedOf_some {n : Bt} {f : Fl} (h : getF n D = some f) : syncedOf n D = f.synced := by simp [syncedOf, h]
/-- 'Sync'. -/
theorem Log.sync (h : Log room p D F) : Log room p (syncW D p F) F ∧ (∀ k, (∀ G f, F = G ++ [f] → SyncTo p D G) → Kept p (syncW D p F) F k) ∧ usedD (syncW D p F) = usedD D ∧
    ((∀ G f, F = G ++ [f] → SyncTo p D G) → SyncTo p (syncW D p F) F) := by
  rcases snoc_cases F with rfl | ⟨G, f, rfl⟩
  · refine ⟨h, fun k _ => ⟨fun G f e => ?_, fun G f e => ?_⟩, rfl, fun _ f hf => by cases hf⟩
    · simp at e
    · simp at e
  · have e : syncW D p (G ++ [f]) = (syncD D (nameW p f.first)).2 := by simp [syncW]
    rw [e]
    have hmem : f ∈ G ++ [f] := by simp
    obtain ⟨s, hs⟩ := h.has f hmem
    have hf := h.rng f hmem
    have hall : (∀ G' f', G ++ [f] = G' ++ [f'] → SyncTo p D G') → SyncTo p (syncD D (nameW p f.first)).2 (G ++ [f]) := fun hold g hg => by
      rcases List.mem_append.1 hg with hg' | hg'
      · have hne : f.first ≠ g.first := fun e' => by
          have hp := h.asc
          rw [List.map_append] at hp
          have := (List.pairwise_append.1 hp).2.2 g.first (List.mem_map.2 ⟨g, hg', rfl⟩) f.first (by simp)
          omega
        have hne' : nameW p f.first ≠ nameW p g.first := fun e' => hne (name_inj hf.2 (h.rng g hg).2 e')
        have := hold G f rfl g hg'
        unfold syncedOf at this ⊢
        rw [getF_sync h.ok, if_neg hne']
        exact this
      · obtain rfl : g = f := by simpa using hg'
        unfold syncedOf
        rw [getF_sync h.ok, if_pos rfl, hs]
        simp [frames_len]
    refine ⟨?_, fun k hold => ⟨fun G' f' e' => ?_, fun G' f' e' => ?_⟩, used_sync h.ok, hall⟩
    · refine h.move (h.ok.sync' _) (fun n _ => ?_) ?_
      · rw [getF_sync h.ok]
        split
        · rw [Option.map_map]; rfl
        · rfl
      · rw [getF_sync h.ok, if_neg (Ne.symm (tmp_ne hf)), h.tmp]
    · obtain ⟨rfl, _⟩ := List.append_inj' e' rfl
      intro g hg
      exact hall hold g (by simp [hg])
    · obtain ⟨rfl, hff⟩ := List.append_inj' e' rfl
      obtain rfl : f = f' := by simpa using hff
      have := hall hold f (by simp)
      rw [this]
      show goodB _ ≤ goodB _
      conv => rhs; rw [← List.take_append_drop (k + 1 - f.first) f.recs]
      rw [good_app]; omega
end
#print axioms Log.sync
end Go.Proofs.YtdngjkjoahgelaaGreatDoor
