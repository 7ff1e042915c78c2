/-
  WalPlays in plain Lean: what the document's log reads off a disk is what the log holds. WalPlays in plain Lean: the document's Cut is the log's; what Open leaves is a log. WalPlays in plain Lean: whatever files lie there, what Open leaves is a log.
-/
import Derived.Test.YtdngjkjoahgelaaGreatDoorWlN
import Derived.Test.YtdngjkjoahgelaaGreatDoorRh6
import Derived.Test.YtdngjkjoahgelaaGreatDoorRh7
namespace Go.Proofs.YtdngjkjoahgelaaGreatDoor
set_option linter.all false
section
variable {room most : Nat} {p : Bt} {D D' : Fls} {F G : List WF}
theorem first_eq (h : Log room p D F) : firstQ D p = firstW F := by
  rw [firstQ, h.nums]
  cases F <;> rfl
theorem recs_eq (h : Log room p D F) {f : WF} (hf : f ∈ F) : recsQ D p f.first = f.recs := by rw [recsQ, h.bytes hf, scan_all (h.recs f hf)]
theorem next_eq (h : Log room p D F) : nextQ D p = nextW F := by
  rw [nextQ, h.nums, List.getLast?_map, nextW]
  cases hl : F.getLast? with
  | none => rfl
  | some f => simp only [Option.map_some, recs_eq h (List.mem_of_getLast? hl)]
theorem get_eq (h : Log room p D F) (n : Nat) : getQ D p n (numsW D p) = getW F n := by
  rw [h.nums]
  have : ∀ G : List WF, (∀ f ∈ G, f ∈ F) → getQ D p n (G.map (·.first)) = getW G n := fun G => by
    induction G with
    | nil => intro _; rfl
    | cons f G ih =>
      intro hG
      rw [List.map_cons, getQ, getW, ih fun g hg => hG g (by simp [hg]), recs_eq h (hG f (by simp))]
      have e : (f.first ≤ n ∧ n - f.first < f.recs.length) ↔ (f.first ≤ n ∧ n < f.next) := by
        constructor
        · rintro ⟨a, b⟩; exact ⟨a, by show n < f.first + f.recs.length; omega⟩
        · rintro ⟨a, b⟩; exact ⟨a, by have : n < f.first + f.recs.length := b; omega⟩
      simp only [e]
  exact this F fun _ h => h
theorem sync_eq (h : Log room p D F) : syncQ D p = syncW D p F := by
  rw [syncQ, h.nums, List.getLast?_map, syncW]
  cases F.getLast? <;> rfl
theorem app_eq (h : Log room p D F) (r : Bt) : appQ room (most : Int) p D r = ((appendW room most p D F r).1, (appendW room most p D F r).2.1) := by
  unfold appQ appendW
  by_cases hr : 1048576 < r.length
  · rw [if_pos hr, if_pos hr]
  · rw [if_neg hr, if_neg hr, h.nums, List.getLast?_map, next_eq h]
    cases hl : F.getLast? with
    | none =>
      have hF : F = [] := List.getLast?_eq_none_iff.1 hl
      subst hF
      have h1 : nextW ([] : List WF) = 1 := rfl
      have h2 : freshW most ([] : List WF) = true := rfl
      have h3 : syncW D p [] = D := rfl
      rw [if_pos h2, h1, if_neg (by omega), h3]
      simp only [Option.map_none]
      by_cases hx : (appendD room D (nameW p 1) (frameB r)).1 = 0
      · rw [if_pos hx]; exact Prod.ext hx rfl
      · rw [if_neg hx]; exact Prod.ext rfl (q_append_err hx)
    | some f =>
      have hf := List.mem_of_getLast? hl
      have hfr : freshW most F = decide (most ≤ f.size) := by rw [freshW, hl]
      have hsz : (bytesOf (nameW p f.first) D).length = f.size := by rw [h.bytes hf, frames_len]
      have hsy : syncW D p F = (syncD D (nameW p f.first)).2 := by rw [syncW, hl]
      rw [hfr, hsy]
      simp only [Option.map_some, hsz, decide_eq_true_eq]
      by_cases hm : most ≤ f.size
      · rw [if_neg (by omega), if_pos hm]
        split
        · rfl
        · by_cases hx : (appendD room (syncD D (nameW p f.first)).2 (nameW p (nextW F)) (frameB r)).1 = 0
          · rw [if_pos hx]; exact Prod.ext hx rfl
          · rw [if_neg hx]; exact Prod.ext rfl (q_append_err hx)
      · rw [if_pos (by omega), if_neg hm]
        by_cases hx : (appendD room D (nameW p f.first) (frameB r)).1 = 0
        · rw [if_pos hx]; exact Prod.ext hx rfl
        · rw [if_neg hx]; exact Prod.ext rfl (q_append_err hx)
theorem drop_eq' (to_ : Nat) : ∀ (F : List WF) (D : Fls), dropQ p to_ (F.map (·.first)) D = (dropW p to_ F D).1
  | [], _ => rfl
  | [f], _ => rfl
  | f :: g :: F, D => by
    have ih := drop_eq' to_ (g :: F)
    simp only [List.map_cons] at ih ⊢
    rw [dropQ, dropW]
    split
    · exact ih _
    · rfl
theorem drop_eq (h : Log room p D F) (to_ : Nat) : dropQ p to_ (numsW D p) D = (dropW p to_ F D).1 := by rw [h.nums]; exact drop_eq' to_ F D
theorem anewQ_eq (hD : DOk room D) (hp : p.length ≤ 48) {n : Nat} (hn : inR n) (b : Bt) : anewQ room D p n b = anewW room D p n b := by
  unfold anewQ anewW
  simp only
  by_cases hx : (appendD room (removeD D (tmpW p)).2 (tmpW p) b).1 = 0
  · rw [if_pos hx, if_pos hx, renameQ_eq _ (tmp_ne hn)]
    have h1 := hD.remove (tmpW p)
    have h2 := h1.append (tmpW p) b
    have h3 := h2.sync' (tmpW p)
    have hg : ∃ f, getF (tmpW p) (appendD room (removeD D (tmpW p)).2 (tmpW p) b).2 = some f := by
      unfold appendD at hx ⊢
      split
      · rename_i h; rw [if_pos h] at hx; cases hx
      · rename_i h
        rw [if_neg h] at hx
        split
        · rename_i h'; rw [if_pos h'] at hx; cases hx
        · exact ⟨_, by rw [getF_put h1.srt, if_pos rfl]⟩
    obtain ⟨f, hf⟩ := hg
    have hs : getF (tmpW p) (syncD (appendD room (removeD D (tmpW p)).2 (tmpW p) b).2 (tmpW p)).2 = some ⟨f.name, f.bytes, f.bytes.length⟩ := by rw [getF_sync h2, if_pos rfl, hf]; rfl
    have := (getF_rename (n := []) h3 hs (name_ok hn hp) (tmp_ne hn)).1
    exact Prod.ext this.symm rfl
  · rw [if_neg hx, if_neg hx]
theorem goQ_true (nx : Option Nat) : ∀ (ns : List Nat) (D : Fls), goQ room p nx true ns D = (0, delAllW p ns D)
  | [], D => by rw [goQ]; rfl
  | n :: ns, D => by rw [goQ, if_pos (.inl rfl), goQ_true nx ns]; rfl
theorem go_eq (hp : p.length ≤ 48) : ∀ (ns : List Nat) (nx : Option Nat) (D : Fls), DOk room D → (∀ n ∈ ns, inR n) → goQ room p nx false ns D = ((goW room p nx ns D).1, (goW room p nx ns D).2.1)
  | [], nx, D, _, _ => by rw [goQ, goW]
  | n :: ns, nx, D, hD, hn => by
    rw [goQ, goW]
    by_cases h1 : nx ≠ none ∧ nx ≠ some n
    · rw [if_pos (.inr h1), if_pos h1, goQ_true]
      rfl
    · rw [if_neg (fun h => h.elim (fun h => by cases h) h1), if_neg h1]
      simp only
      by_cases h2 : goodB (scanB (bytesOf (nameW p n) D)) < (bytesOf (nameW p n) D).length
      · rw [if_pos h2, if_pos h2, anewQ_eq hD hp (hn n (by simp)), goQ_true]
        by_cases h3 : (anewW room D p n ((bytesOf (nameW p n) D).take (goodB (scanB (bytesOf (nameW p n) D))))).1 = 0
        · rw [if_neg (by simp [h3]), if_pos h3]
        · rw [if_pos h3, if_neg h3]
      · rw [if_neg h2, if_neg h2, go_eq hp ns _ D hD fun m hm => hn m (by simp [hm])]
theorem open_eq (hD : DOk room D) (hp : p.length ≤ 48) : openQ room D p = ((openW room D p).1, (openW room D p).2.1) := by
  rw [openQ, openW]
  exact go_eq hp _ _ _ (hD.remove _) fun n hn => nums_inR hn
end
end Go.Proofs.YtdngjkjoahgelaaGreatDoor

namespace Go.Proofs.YtdngjkjoahgelaaGreatDoor
set_option linter.all false
section
variable {room most : Nat} {p : Bt} {D D' : Fls} {F G : List WF}
/-- What 'Cut's loop comes to. -/
def cutEnd (room : Nat) (p : Bt) (fr : Nat) (y : Fls × List WF) : Int × Fls := match y.2 with
  | f :: _ => anewW room y.1 p f.first (framesB (f.recs.take (fr - f.first)))
  | [] => (0, y.1)
theorem next_init {f : WF} (h : Log room p D (G ++ [f])) (hG : G ≠ []) : nextW G = f.first := by
  have hc := h.chain
  rw [chain_app] at hc
  obtain ⟨_, h2⟩ := hc
  obtain ⟨h3, _⟩ := h2
  cases hl : G.getLast? with
  | none => exact absurd (List.getLast?_eq_none_iff.1 hl) hG
  | some g =>
    have e : lastNx none G = some g.next := by rw [lastNx, hl]
    rw [e] at h3
    rcases h3 with h3 | h3
    · cases h3
    · rw [nextW, hl]; exact Option.some.inj h3
theorem cutgo_eq (fr : Nat) : ∀ (n : Nat) (F : List WF) (D : Fls), F.length = n → Log room p D F → cutGo room p fr (F.map (·.first)).reverse D = cutEnd room p fr (cutBack p fr F.reverse D)
  | 0, F, D, hn, h => by
    obtain rfl := List.eq_nil_of_length_eq_zero hn
    rfl
  | n + 1, F, D, hn, h => by
    obtain ⟨G, f, rfl⟩ : ∃ G f, F = G ++ [f] := by
      rcases List.eq_nil_or_concat F with rfl | ⟨G, f, e⟩
      · simp at hn
      · exact ⟨G, f, by simpa using e⟩
    have hG : G.length = n := by simp at hn; exact hn
    rw [List.map_append, List.reverse_append, List.reverse_append]
    simp only [List.map_cons, List.map_nil, List.reverse_cons, List.reverse_nil, List.nil_append, List.cons_append]
    rw [cutGo, cutBack]
    by_cases hlt : fr < f.first
    · rw [if_pos hlt, if_pos hlt]
      exact cutgo_eq fr n G _ hG h.init
    · rw [if_neg hlt, if_neg hlt, cutEnd, anewQ_eq h.ok h.pre (h.rng f (by simp)), recs_eq h (by simp)]
theorem cutok (fr : Nat) : ∀ (n : Nat) (F : List WF) (D : Fls), F.length = n → Log room p D F → fr < nextW F → CutOk p fr (F.map (·.first)).reverse D
  | 0, F, D, hn, h, _ => by
    obtain rfl := List.eq_nil_of_length_eq_zero hn
    exact trivial
  | n + 1, F, D, hn, h, hx => by
    obtain ⟨G, f, rfl⟩ : ∃ G f, F = G ++ [f] := by
      rcases List.eq_nil_or_concat F with rfl | ⟨G, f, e⟩
      · simp at hn
      · exact ⟨G, f, by simpa using e⟩
    have hG : G.length = n := by simp at hn; exact hn
    rw [List.map_append, List.reverse_append]
    simp only [List.map_cons, List.map_nil, List.reverse_cons, List.reverse_nil, List.nil_append, List.cons_append]
    rw [CutOk]
    by_cases hlt : fr < f.first
    · rw [if_pos hlt]
      by_cases hnil : G = []
      · subst hnil; exact trivial
      · exact cutok fr n G _ hG h.init (by rw [next_init h hnil]; exact hlt)
    · rw [if_neg hlt, recs_eq h (by simp)]
      rw [nextW_snoc] at hx
      have : fr < f.first + f.recs.length := hx
      omega
theorem cut_eq (h : Log room p D F) (fr : Nat) : cutQ room p D fr = ((cutW room p D F fr).1, (cutW room p D F fr).2.1) := by
  rw [cutQ, first_eq h, next_eq h, h.nums, cutgo_eq fr F.length F D rfl h, cutW]
  split
  · rfl
  · split
    · rfl
    · rcases hc : cutBack p fr F.reverse D with ⟨D1, _ | ⟨f, R⟩⟩
      · rfl
      · simp only [cutEnd]
        by_cases hx : (anewW room D1 p f.first (framesB (f.recs.take (fr - f.first)))).1 = 0
        · rw [if_pos hx]; exact Prod.ext hx rfl
        · rw [if_neg hx]
theorem cut_ok (h : Log room p D F) (fr : Nat) (hx : fr < nextQ D p) : CutOk p fr (numsW D p).reverse D := by
  rw [h.nums]
  exact cutok fr F.length F D rfl h (by rw [← next_eq h]; exact hx)
/-! ### What 'Open' leaves -/
theorem delAll_ok (hp : p.length ≤ 48) : ∀ (ns : List Nat) (D : Fls), DOk room D → (∀ n ∈ ns, inR n) → DOk room (delAllW p ns D) ∧ usedD (delAllW p ns D) ≤ usedD D ∧ ∀ x, getF x (delAllW p ns D) = if x ∈ ns.map (nameW p) then none else getF x D
  | [], D, hD, _ => ⟨hD, Nat.le_refl _, fun x => by simp [delAllW]⟩
  | n :: ns, D, hD, hn => by
    obtain ⟨h1, h2, h3⟩ := delAll_ok hp ns (removeD D (nameW p n)).2 (hD.remove _) fun m hm => hn m (by simp [hm])
    rw [delAll_cons]
    refine ⟨h1, Nat.le_trans h2 (used_remove_le hD), fun x => ?_⟩
    rw [h3, getF_remove hD]
    by_cases hx : x ∈ ns.map (nameW p)
    · rw [if_pos hx, if_pos (by simp only [List.map_cons, List.mem_cons]; exact .inr hx)]
    · rw [if_neg hx]
      by_cases he : nameW p n = x
      · rw [if_pos he, if_pos (by simp [he])]
      · rw [if_neg he, if_neg (by simp only [List.map_cons, List.mem_cons]; exact fun h => h.elim (fun h => he h.symm) hx)]
/-- A disk on which just these files stand, each as it should. -/
theorem log_of (hok : DOk room D) (hp : p.length ≤ 48) (ht : getF (tmpW p) D = none) (hc : chainW none F) (hn : ∀ n, inR n → ((getF (nameW p n) D).isSome = true ↔ n ∈ F.map (·.first)))
    (hr : ∀ f ∈ F, inR f.first) (ha : (F.map (·.first)).Pairwise (· < ·)) (hb : ∀ f ∈ F, bytesOf (nameW p f.first) D = framesB f.recs ∧ ∀ b ∈ f.recs, b.length ≤ 1048576) : Log room p D F := by
  refine ⟨hok, hp, hr, hc, ha, fun f hf => (hb f hf).2, fun f hf => ?_, fun n h1 h2 => (hn n h1).1 h2, ht⟩
  have hs := (hn f.first (hr f hf)).2 (List.mem_map.2 ⟨f, hf, rfl⟩)
  obtain ⟨g, hg⟩ := Option.isSome_iff_exists.1 hs
  have h1 := (hb f hf).1
  rw [bytesOf, hg] at h1
  have h2 := getF_name hg
  obtain ⟨gn, gb, gs⟩ := g
  simp only [Option.map_some, Option.getD_some] at h1 h2
  subst h1; subst h2
  exact ⟨gs, hg⟩
end
end Go.Proofs.YtdngjkjoahgelaaGreatDoor

namespace Go.Proofs.YtdngjkjoahgelaaGreatDoor
set_option linter.all false
section
variable {room most : Nat} {p : Bt} {D D' : Fls} {F G : List WF}
theorem name_mem {n : Nat} (hn : inR n) {ns : List Nat} (hs : ∀ m ∈ ns, inR m) : nameW p n ∈ ns.map (nameW p) ↔ n ∈ ns := by
  rw [List.mem_map]
  constructor
  · rintro ⟨m, hm, e⟩
    rw [← name_inj (hs m hm).2 hn.2 e]; exact hm
  · exact fun h => ⟨n, h, rfl⟩
theorem tmp_mem {ns : List Nat} (hs : ∀ m ∈ ns, inR m) : ¬ tmpW p ∈ ns.map (nameW p) := by
  rw [List.mem_map]
  rintro ⟨m, hm, e⟩
  exact tmp_ne (hs m hm) e.symm
theorem bytesOf_get {n : Bt} {D D' : Fls} (h : getF n D' = getF n D) : bytesOf n D' = bytesOf n D := by rw [bytesOf, bytesOf, h]
theorem anew_room (hp : p.length ≤ 48) (ht : getF (tmpW p) D = none) {n : Nat} {b : Bt} (h : (anewW room D p n b).1 = 0) : usedD D + b.length ≤ room := by
  by_cases hr : usedD D + b.length ≤ room
  · exact hr
  · have h1 := append_full (room := room) (D := D) (d := b) (tmp_ok hp) (by omega)
    unfold anewW at h
    rw [remove_none ht] at h
    simp only [h1] at h
    rw [if_neg (by omega)] at h
    cases h
theorem log_go (hp : p.length ≤ 48) : ∀ (ns : List Nat) (G : List WF) (nx : Option Nat) (D : Fls), DOk room D → getF (tmpW p) D = none →
    (∀ n, inR n → ((getF (nameW p n) D).isSome = true ↔ n ∈ G.map (·.first) ++ ns)) → (G.map (·.first) ++ ns).Pairwise (· < ·) → chainW none G →
    (∀ f ∈ G, bytesOf (nameW p f.first) D = framesB f.recs ∧ ∀ b ∈ f.recs, b.length ≤ 1048576) → (∀ n ∈ G.map (·.first) ++ ns, inR n) → nx = lastNx none G →
    (goW room p nx ns D).1 = 0 → Log room p (goW room p nx ns D).2.1 (G ++ (goW room p nx ns D).2.2)
  | [], G, nx, D, hD, ht, hn, ha, hc, hb, hr, hx, h0 => by
    rw [goW]
    simp only [List.append_nil] at hn ha hr ⊢
    exact log_of hD hp ht hc hn (fun f hf => hr f.first (List.mem_map.2 ⟨f, hf, rfl⟩)) ha hb
  | n :: ns, G, nx, D, hD, ht, hn, ha, hc, hb, hr, hx, h0 => by
    have hrn : ∀ m ∈ n :: ns, inR m := fun m hm => hr m (List.mem_append.2 (.inr hm))
    have hrs : ∀ m ∈ ns, inR m := fun m hm => hrn m (by simp [hm])
    have hrG : ∀ f ∈ G, inR f.first := fun f hf => hr f.first (List.mem_append.2 (.inl (List.mem_map.2 ⟨f, hf, rfl⟩)))
    obtain ⟨aG, aN, aGN⟩ := List.pairwise_append.1 ha
    have hGn : ∀ f ∈ G, ¬ f.first ∈ n :: ns := fun f hf h => by have := aGN f.first (List.mem_map.2 ⟨f, hf, rfl⟩) f.first h; omega
    rw [goW] at h0 ⊢
    by_cases h1 : nx ≠ none ∧ nx ≠ some n
    · rw [if_pos h1] at h0 ⊢
      simp only [List.append_nil]
      obtain ⟨g1, _, g3⟩ := delAll_ok hp (n :: ns) D hD hrn
      refine log_of g1 hp (by rw [g3, if_neg (tmp_mem hrn)]; exact ht) hc (fun m hm => ?_) hrG aG fun f hf => ?_
      · rw [g3]
        by_cases hmm : m ∈ n :: ns
        · rw [if_pos ((name_mem hm hrn).2 hmm)]
          simp only [Option.isSome_none, Bool.false_eq_true, false_iff]
          intro h
          obtain ⟨f, hf, e⟩ := List.mem_map.1 h
          exact hGn f hf (e ▸ hmm)
        · rw [if_neg (fun h => hmm ((name_mem hm hrn).1 h)), hn m hm, List.mem_append]
          exact ⟨fun h => h.resolve_right hmm, .inl⟩
      · obtain ⟨b1, b2⟩ := hb f hf
        refine ⟨?_, b2⟩
        rw [bytesOf_get (D := D), b1]
        rw [g3, if_neg (fun h => hGn f hf ((name_mem (hrG f hf) hrn).1 h))]
    · rw [if_neg h1] at h0 ⊢
      have h1' : nx = none ∨ nx = some n := by
        by_cases h : nx = none
        · exact .inl h
        · exact .inr (Classical.byContradiction fun h' => h1 ⟨h, h'⟩)
      simp only at h0 ⊢
      obtain ⟨s, hs⟩ : ∃ s, bytesOf (nameW p n) D = s := ⟨_, rfl⟩
      obtain ⟨k1, k2, k3, _⟩ := scan_good s.length s (Nat.le_refl _)
      rw [hs] at h0 ⊢
      have hc2 : chainW none (G ++ [⟨n, scanB s⟩]) := by
        rw [chain_app]
        exact ⟨hc, by rw [← hx]; exact ⟨h1', trivial⟩⟩
      have ha2 : ((G ++ [(⟨n, scanB s⟩ : WF)]).map (·.first) ++ ns) = G.map (·.first) ++ n :: ns := by simp
      by_cases h2 : goodB (scanB s) < s.length
      · rw [if_pos h2] at h0 ⊢
        by_cases h3 : (anewW room D p n (s.take (goodB (scanB s)))).1 = 0
        · rw [if_pos h3] at h0 ⊢
          obtain ⟨_, w2, _, w4⟩ := anew_ok hD hp (hrn n (by simp)) (s.take (goodB (scanB s))) (anew_room hp ht h3)
          obtain ⟨g1, _, g3⟩ := delAll_ok hp ns _ w2 hrs
          have hnn : ¬ n ∈ ns := fun h => by have := (List.pairwise_cons.1 aN).1 n h; omega
          refine log_of g1 hp ?_ hc2 (fun m hm => ?_) (fun f hf => ?_) ?_ fun f hf => ?_
          · rw [g3, if_neg (tmp_mem hrs), w4, if_neg (fun e => tmp_ne (hrn n (by simp)) e.symm), if_pos rfl]
          · rw [g3]
            by_cases hmm : m ∈ ns
            · rw [if_pos ((name_mem hm hrs).2 hmm)]
              simp only [Option.isSome_none, Bool.false_eq_true, false_iff, List.map_append, List.map_cons, List.map_nil, List.mem_append, List.mem_singleton]
              rintro (h | h)
              · obtain ⟨f, hf, e⟩ := List.mem_map.1 h
                exact hGn f hf (by rw [e]; simp [hmm])
              · exact hnn (h ▸ hmm)
            · rw [if_neg (fun h => hmm ((name_mem hm hrs).1 h)), w4]
              by_cases he : nameW p n = nameW p m
              · have hnm : n = m := name_inj (hrn n (by simp)).2 hm.2 he
                rw [if_pos he]
                simp [hnm]
              · rw [if_neg he, if_neg (tmp_ne hm), hn m hm]
                have hnm : ¬ m = n := fun e => he (by rw [e])
                simp only [List.map_append, List.map_cons, List.map_nil, List.mem_append, List.mem_cons, List.not_mem_nil, or_false]
                exact ⟨fun h => h.elim .inl fun h => h.elim .inr fun h => absurd h hmm, fun h => h.elim .inl fun h => .inr (.inl h)⟩
          · rcases List.mem_append.1 hf with hf | hf
            · exact hrG f hf
            · rw [List.mem_singleton.1 hf]; exact hrn n (by simp)
          · have := ha
            rw [← ha2] at this
            exact (List.pairwise_append.1 this).1
          · rcases List.mem_append.1 hf with hf | hf
            · obtain ⟨b1, b2⟩ := hb f hf
              refine ⟨?_, b2⟩
              rw [bytesOf_get (D := D), b1]
              have hfn : ¬ f.first ∈ ns := fun h => hGn f hf (by simp [h])
              have hne : nameW p n ≠ nameW p f.first := fun e => hGn f hf (by rw [← name_inj (hrn n (by simp)).2 (hrG f hf).2 e]; simp)
              rw [g3, if_neg (fun h => hfn ((name_mem (hrG f hf) hrs).1 h)), w4, if_neg hne, if_neg (tmp_ne (hrG f hf))]
            · rw [List.mem_singleton.1 hf]
              refine ⟨?_, k3⟩
              have hfn : ¬ nameW p n ∈ ns.map (nameW p) := fun h => hnn ((name_mem (hrn n (by simp)) hrs).1 h)
              rw [bytesOf, g3, if_neg hfn, w4, if_pos rfl]
              exact k2
        · rw [if_neg h3] at h0
          exact absurd h0 h3
      · rw [if_neg h2] at h0 ⊢
        have hsf : s = framesB (scanB s) := by rw [← k2, List.take_of_length_le (by omega)]
        have hnx : some (n + (scanB s).length) = lastNx none (G ++ [⟨n, scanB s⟩]) := by simp [lastNx]
        have ih := log_go hp ns (G ++ [⟨n, scanB s⟩]) (some (n + (scanB s).length)) D hD ht (by rw [ha2]; exact hn) (by rw [ha2]; exact ha) hc2
          (fun f hf => by
            rcases List.mem_append.1 hf with hf | hf
            · exact hb f hf
            · rw [List.mem_singleton.1 hf]
              exact ⟨by rw [hs]; exact hsf, k3⟩) (by rw [ha2]; exact hr) hnx h0
        rw [List.append_assoc] at ih
        exact ih
theorem log_open (hD : DOk room D) (hp : p.length ≤ 48) (h0 : (openW room D p).1 = 0) : Log room p (openW room D p).2.1 (openW room D p).2.2 := by
  have h1 := hD.remove (tmpW p)
  have := log_go hp (numsW (removeD D (tmpW p)).2 p) [] none (removeD D (tmpW p)).2 h1 (by rw [getF_remove hD, if_pos rfl])
    (fun n hn => by rw [List.map_nil, List.nil_append, nums_mem]; exact ⟨fun h => ⟨hn, h⟩, fun h => h.2⟩) (nums_sorted h1) trivial (fun f hf => by cases hf) (fun n hn => nums_inR (by simpa using hn)) rfl h0
  rw [List.nil_append] at this
  exact this
end
#print axioms log_open
end Go.Proofs.YtdngjkjoahgelaaGreatDoor
