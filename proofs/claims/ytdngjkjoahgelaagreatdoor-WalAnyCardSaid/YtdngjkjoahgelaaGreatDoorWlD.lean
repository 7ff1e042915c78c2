/-
  Disks by names, in plain Lean: what a name has behind Append, Sync, Rename, Remove, Crash; the log's files on a disk.
-/
import Derived.Test.YtdngjkjoahgelaaGreatDoorWlO
namespace Go.Proofs.YtdngjkjoahgelaaGreatDoor
set_option linter.all false
section
variable {room : Nat} {D : Fls} {n m : Bt}
theorem getF_name {f : Fl} (h : getF n D = some f) : f.name = n := by simpa using List.find?_some h
theorem getF_mem {f : Fl} (h : getF n D = some f) : f ∈ D := List.mem_of_find?_eq_some h
theorem getF_put (h : SrtBy Fl.name D) (f : Fl) : getF n (putF f D) = if f.name = n then some f else getF n D := getBy_put h f n
theorem getF_del (h : SrtBy Fl.name D) : getF n (delF m D) = if m = n then none else getF n D := getBy_del h m n
theorem getF_remove (h : DOk room D) : getF n (removeD D m).2 = if m = n then none else getF n D := by
  unfold removeD
  split
  · rename_i hm; split
    · rename_i e; rw [← e, hm]
    · rfl
  · exact getF_del h.srt
theorem append_ok {d : Bt} (hn : okName n = true) (hr : usedD D + d.length ≤ room) : appendD room D n d = (0, putF ⟨n, bytesOf n D ++ d, syncedOf n D⟩ D) := by
  unfold appendD; rw [if_neg (by simp [hn]), if_neg (by omega)]
theorem append_full {d : Bt} (hn : okName n = true) (hr : room < usedD D + d.length) : appendD room D n d = (7, D) := by
  unfold appendD; rw [if_neg (by simp [hn]), if_pos hr]
theorem used_append (h : DOk room D) {d : Bt} (hn : okName n = true) (hr : usedD D + d.length ≤ room) : usedD (appendD room D n d).2 = usedD D + d.length := by
  rw [append_ok hn hr]
  cases hg : getF n D with
  | none => show usedD (putF ⟨n, bytesOf n D ++ d, syncedOf n D⟩ D) = _; rw [used_put_new h.srt hg]; simp [bytesOf, hg]
  | some x =>
    have := used_put_le (g := ⟨n, bytesOf n D ++ d, syncedOf n D⟩) (room := room) h.srt hg
    simp [bytesOf, hg] at this ⊢; omega
theorem getF_sync (h : DOk room D) : getF n (syncD D m).2 = if m = n then (getF n D).map (fun f => ⟨f.name, f.bytes, f.bytes.length⟩) else getF n D := by
  unfold syncD
  split
  · rename_i hm; split
    · rename_i e; rw [← e, hm]; rfl
    · rfl
  · rename_i f hm
    rw [getF_put h.srt]
    split
    · rename_i e
      have e : m = n := e
      rw [← e, hm, Option.map_some, getF_name hm]
    · rfl
theorem used_sync (h : DOk room D) : usedD (syncD D m).2 = usedD D := by
  unfold syncD
  split
  · rfl
  · rename_i f hm
    have := used_put_le (g := ⟨m, f.bytes, f.bytes.length⟩) (room := room) h.srt hm
    simp at this ⊢; omega
theorem used_remove (h : DOk room D) : usedD (removeD D m).2 + (bytesOf m D).length = usedD D := by
  unfold removeD
  split
  · rename_i hm; simp [bytesOf, hm]
  · rename_i f hm; have := used_del h.srt hm; simp [bytesOf, hm]; omega
theorem used_remove_le (h : DOk room D) : usedD (removeD D m).2 ≤ usedD D := by have := used_remove (m := m) h; omega
theorem getF_rename (h : DOk room D) {f : Fl} {t x : Bt} (hf : getF t D = some f) (hx : okName x = true) (hne : t ≠ x) :
    (renameD D t x).1 = 0 ∧ getF n (renameD D t x).2 = if x = n then some ⟨x, f.bytes, f.synced⟩ else if t = n then none else getF n D := by
  unfold renameD
  rw [hf]
  simp only [hx, Bool.true_eq_false, if_false, if_neg hne]
  refine ⟨trivial, ?_⟩
  rw [getF_put (h.del t).srt]
  split
  · rfl
  · rw [getF_del h.srt]
theorem used_rename (h : DOk room D) {f : Fl} {t x : Bt} (hf : getF t D = some f) (hx : okName x = true) (hne : t ≠ x) :
    usedD (renameD D t x).2 + (bytesOf x D).length = usedD D := by
  unfold renameD
  rw [hf]
  simp only [hx, Bool.true_eq_false, if_false, if_neg hne]
  have hd := h.del t
  have hu := used_del h.srt hf
  have hg : getF x (delF t D) = getF x D := by rw [getF_del h.srt, if_neg hne]
  cases hm : getF x D with
  | none => rw [hm] at hg; rw [used_put_new hd.srt hg]; show usedD (delF t D) + f.bytes.length + _ = _; simp [bytesOf, hm]; omega
  | some y =>
    rw [hm] at hg
    have := used_put_le (g := ⟨x, f.bytes, f.synced⟩) (room := room) hd.srt hg
    have h3 : (Fl.mk x f.bytes f.synced).bytes.length = f.bytes.length := rfl
    have h4 : (bytesOf x D).length = y.bytes.length := by simp [bytesOf, hm]
    rw [h4]; rw [h3] at this; omega
theorem getF_crash (keep : List Int) (h : DOk room D) : ∃ k, getF n (crashD keep 0 D) = (getF n D).map (crashF k) := by
  have hc := h.crash keep
  cases hg : getF n D with
  | none =>
    refine ⟨none, ?_⟩
    refine getBy_none' fun a ha => ?_
    have : a.name ∈ D.map (·.name) := by rw [← crashD_names keep 0]; exact List.mem_map.2 ⟨a, ha, rfl⟩
    obtain ⟨b, hb, e⟩ := List.mem_map.1 this
    rw [← e]; exact getBy_none hg b hb
  | some f =>
    obtain ⟨i, hi⟩ := List.mem_iff_getElem?.1 (getF_mem hg)
    have h1 := crashD_get keep 0 D i
    rw [hi] at h1
    refine ⟨keep[0 + i]?, ?_⟩
    obtain ⟨l1, l2, e⟩ := List.append_of_mem (List.mem_of_getElem? h1)
    have hs := hc.srt
    rw [e] at hs ⊢
    have h2 := getBy_mid hs
    have h3 : (crashF keep[0 + i]? f).name = n := (show f.name = n from getF_name hg)
    rw [h3] at h2
    exact h2
theorem crash_full {f : Fl} {k : Option Int} (h : f.synced = f.bytes.length) : crashF k f = f := by
  have := leftOf_le k (f.bytes.length - f.synced)
  have h0 : leftOf k (f.bytes.length - f.synced) = 0 := by omega
  obtain ⟨a, b, c⟩ := f
  simp only at h
  subst h
  simp only [crashF, Fl.mk.injEq, true_and] at h0 ⊢
  rw [h0]; simp
theorem crash_none {f : Fl} : crashF none f = ⟨f.name, f.bytes.take f.synced, f.synced⟩ := by simp [crashF, leftOf]
theorem list_mem {p s : Bt} : s ∈ listD D p ↔ (getF s D).isSome = true ∧ p.isPrefixOf s = true := by
  unfold listD
  rw [List.mem_filter]
  constructor
  · rintro ⟨h1, h2⟩
    obtain ⟨f, hf, rfl⟩ := List.mem_map.1 h1
    refine ⟨?_, h2⟩
    cases hg : getF f.name D with
    | none => exact absurd rfl (getBy_none hg f hf)
    | some _ => rfl
  · rintro ⟨h1, h2⟩
    obtain ⟨f, hf⟩ := Option.isSome_iff_exists.1 h1
    exact ⟨List.mem_map.2 ⟨f, getF_mem hf, getF_name hf⟩, h2⟩
theorem list_sorted (h : DOk room D) (p : Bt) : (listD D p).Pairwise (· < ·) := List.Pairwise.sublist List.filter_sublist (List.pairwise_map.2 h.srt)
end
/-! ### The log's files by number -/
def inR (n : Nat) : Prop := 1 ≤ n ∧ n ≤ 1000000000000000
section
variable {room : Nat} {D : Fls} {p : Bt}
theorem name_len {n : Nat} (h : inR n) : (nameW p n).length = p.length + 16 := by rw [nameW, List.length_append, pad16_len (by have := h.2; omega)]
theorem name_ok {n : Nat} (h : inR n) (hp : p.length ≤ 48) : okName (nameW p n) = true := by
  have := name_len (p := p) h
  have h0 : nameW p n ≠ [] := fun e => by rw [e] at this; simp at this
  simp [okName, h0, this]; omega
theorem tmp_ok (hp : p.length ≤ 48) : okName (tmpW p) = true := by simp [okName, tmpW]; omega
theorem tmp_ne {n : Nat} (h : inR n) : tmpW p ≠ nameW p n := fun e => by
  have := congrArg List.length e
  rw [name_len h] at this; simp [tmpW] at this
theorem pref_iff (p s : Bt) : p.isPrefixOf s = true ↔ ∃ t, s = p ++ t := by rw [List.isPrefixOf_iff_prefix]; constructor <;> (rintro ⟨t, e⟩; exact ⟨t, e.symm⟩)
theorem nums_mem (n : Nat) : n ∈ numsW D p ↔ inR n ∧ (getF (nameW p n) D).isSome = true := by
  unfold numsW
  rw [List.mem_filter, List.mem_map]
  constructor
  · rintro ⟨⟨s, hs, rfl⟩, hpos⟩
    obtain ⟨h1, h2⟩ := list_mem.1 hs
    obtain ⟨t, rfl⟩ := (pref_iff p s).1 h2
    simp only [List.drop_left, decide_eq_true_eq] at hpos ⊢
    obtain ⟨g1, g2⟩ := pad_number hpos
    rw [nameW, g1]
    exact ⟨⟨hpos, g2⟩, h1⟩
  · rintro ⟨h1, h2⟩
    refine ⟨⟨nameW p n, list_mem.2 ⟨h2, (pref_iff _ _).2 ⟨_, rfl⟩⟩, ?_⟩, by have := h1.1; simp; omega⟩
    rw [nameW, List.drop_left, number_pad h1.2]
theorem nums_sorted (h : DOk room D) : (numsW D p).Pairwise (· < ·) := by
  unfold numsW
  have h1 := list_sorted h p
  have hm : ∀ s ∈ listD D p, ∃ t, s = p ++ t := fun s hs => (pref_iff p s).1 (list_mem.1 hs).2
  generalize listD D p = l at h1 hm
  induction l with
  | nil => exact List.Pairwise.nil
  | cons s l ih =>
    obtain ⟨g1, g2⟩ := List.pairwise_cons.1 h1
    have ih := ih g2 fun x hx => hm x (by simp [hx])
    obtain ⟨t, rfl⟩ := hm s (by simp)
    rw [List.map_cons, List.filter_cons]
    split
    · rename_i hpos
      refine List.pairwise_cons.2 ⟨fun b hb => ?_, ih⟩
      obtain ⟨hb1, hb2⟩ := List.mem_filter.1 hb
      obtain ⟨s', hs', rfl⟩ := List.mem_map.1 hb1
      obtain ⟨t', rfl⟩ := hm s' (by simp [hs'])
      simp only [List.drop_left, decide_eq_true_eq] at hpos hb2 ⊢
      obtain ⟨e1, e2⟩ := pad_number hpos
      obtain ⟨e3, e4⟩ := pad_number hb2
      have := g1 _ hs'
      rw [← e1, ← e3] at this
      exact (name_lt e2 e4).1 this
    · exact ih
/-- Two ascending lists that hold the same. -/
theorem asc_ext : ∀ {l l' : List Nat}, l.Pairwise (· < ·) → l'.Pairwise (· < ·) → (∀ a, a ∈ l ↔ a ∈ l') → l = l'
  | [], [], _, _, _ => rfl
  | [], b :: l', _, _, h => absurd ((h b).2 (by simp)) (by simp)
  | a :: l, [], _, _, h => absurd ((h a).1 (by simp)) (by simp)
  | a :: l, b :: l', h1, h2, h => by
    obtain ⟨g1, g2⟩ := List.pairwise_cons.1 h1
    obtain ⟨g3, g4⟩ := List.pairwise_cons.1 h2
    have hab : a = b := by
      rcases List.mem_cons.1 ((h a).1 (by simp)) with e | e
      · exact e
      · rcases List.mem_cons.1 ((h b).2 (by simp)) with e' | e'
        · exact e'.symm
        · have := g1 b e'; have := g3 a e; omega
    subst hab
    congr 1
    refine asc_ext g2 g4 fun x => ⟨fun hx => ?_, fun hx => ?_⟩
    · rcases List.mem_cons.1 ((h x).1 (by simp [hx])) with e | e
      · subst e; have := g1 x hx; omega
      · exact e
    · rcases List.mem_cons.1 ((h x).2 (by simp [hx])) with e | e
      · subst e; have := g3 x hx; omega
      · exact e
theorem nums_eq (h : DOk room D) {l : List Nat} (hl : l.Pairwise (· < ·)) (he : ∀ n, n ∈ l ↔ inR n ∧ (getF (nameW p n) D).isSome = true) : numsW D p = l :=
  asc_ext (nums_sorted h) hl fun n => by rw [nums_mem, he]
/-- 'anew' where there is room. -/
theorem anew_ok (h : DOk room D) (hp : p.length ≤ 48) {n : Nat} (hn : inR n) (b : Bt) (hr : usedD D + b.length ≤ room) :
    (anewW room D p n b).1 = 0 ∧ DOk room (anewW room D p n b).2 ∧ usedD (anewW room D p n b).2 ≤ usedD D + b.length ∧
    ∀ x, getF x (anewW room D p n b).2 = if nameW p n = x then some ⟨nameW p n, b, b.length⟩ else if tmpW p = x then none else getF x D := by
  have h1 := h.remove (tmpW p)
  have hu1 := used_remove_le (m := tmpW p) h
  have hg1 : getF (tmpW p) (removeD D (tmpW p)).2 = none := by rw [getF_remove h, if_pos rfl]
  have ha := append_ok (d := b) (room := room) (tmp_ok hp) (D := (removeD D (tmpW p)).2) (by omega)
  have hu2 := used_append (d := b) h1 (tmp_ok hp) (by omega)
  have h2 := h1.append (tmpW p) b
  have e1 : bytesOf (tmpW p) (removeD D (tmpW p)).2 = [] := by simp [bytesOf, hg1]
  have hg2 : ∀ x, getF x (appendD room (removeD D (tmpW p)).2 (tmpW p) b).2 = if tmpW p = x then some ⟨tmpW p, b, syncedOf (tmpW p) (removeD D (tmpW p)).2⟩ else getF x D := fun x => by
    rw [ha]
    show getF x (putF _ _) = _
    rw [getF_put h1.srt, e1, getF_remove h]
    split
    · rfl
    · rfl
  have h3 := h2.sync' (tmpW p)
  have hu3 := used_sync (m := tmpW p) h2
  have hg3 : ∀ x, getF x (syncD (appendD room (removeD D (tmpW p)).2 (tmpW p) b).2 (tmpW p)).2 = if tmpW p = x then some ⟨tmpW p, b, b.length⟩ else getF x D := fun x => by
    rw [getF_sync h2, hg2]
    split <;> rfl
  have hne : tmpW p ≠ nameW p n := tmp_ne hn
  have hg4 := fun x => getF_rename (n := x) h3 (t := tmpW p) (x := nameW p n) (by rw [hg3, if_pos rfl]) (name_ok hn hp) hne
  have h4 := h3.rename (tmpW p) (nameW p n)
  have hu4 := used_rename (t := tmpW p) (x := nameW p n) h3 (by rw [hg3, if_pos rfl]) (name_ok hn hp) hne
  have e : anewW room D p n b = renameD (syncD (appendD room (removeD D (tmpW p)).2 (tmpW p) b).2 (tmpW p)).2 (tmpW p) (nameW p n) := by
    unfold anewW
    simp only [ha, if_true]
  rw [e]
  refine ⟨(hg4 []).1, h4, by omega, fun x => ?_⟩
  rw [(hg4 x).2, hg3]
  split
  · rfl
  · split <;> simp_all
end
#print axioms anew_ok
end Go.Proofs.YtdngjkjoahgelaaGreatDoor
