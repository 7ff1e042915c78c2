/-
  Disks, in plain Lean: files in order of their names; what Append, Sync, Rename, Remove, List, Crash make of them.
-/
namespace Go.Proofs.YtdngjkjoahgelaaGreatDoor
set_option linter.all false
abbrev Bt := List UInt8
structure Fl where
  name : Bt
  bytes : Bt
  synced : Nat
abbrev Fls := List Fl
/-! ### The order of names -/
theorem bt_irrefl (a : Bt) : ¬ a < a := List.lt_irrefl a
theorem bt_trans {a b c : Bt} (h : a < b) (h' : b < c) : a < c := List.lt_trans h h'
theorem bt_tri (a b : Bt) : a < b ∨ a = b ∨ b < a := by
  by_cases h : a < b
  · exact .inl h
  · by_cases h' : b < a
    · exact .inr (.inr h')
    · exact .inr (.inl (List.le_antisymm (List.not_lt.1 h') (List.not_lt.1 h)))
theorem bt_ne {a b : Bt} (h : a < b) : a ≠ b := fun e => bt_irrefl b (e ▸ h)
theorem bt_asymm {a b : Bt} (h : a < b) : ¬ b < a := fun h' => bt_irrefl a (bt_trans h h')
/-! ### Things with names, in order -/
section
variable {α : Type} (nm : α → Bt)
def SrtBy (l : List α) : Prop := l.Pairwise fun a b => nm a < nm b
def putBy (x : α) : List α → List α
  | [] => [x]
  | y :: l => if nm y = nm x then x :: l else if nm x < nm y then x :: y :: l else y :: putBy x l
def delBy (n : Bt) (l : List α) : List α := l.filter (nm · != n)
def getBy (n : Bt) (l : List α) : Option α := l.find? (nm · == n)
variable {nm}
theorem SrtBy.parts {l : List α} {x : α} {r : List α} (h : SrtBy nm (l ++ x :: r)) : (∀ a ∈ l, nm a < nm x) ∧ (∀ b ∈ r, nm x < nm b) ∧ SrtBy nm (l ++ r) := by
  obtain ⟨h1, h2, h3⟩ := List.pairwise_append.1 h
  obtain ⟨h4, h5⟩ := List.pairwise_cons.1 h2
  exact ⟨fun a ha => h3 a ha x (by simp), h4, List.pairwise_append.2 ⟨h1, h5, fun a ha b hb => h3 a ha b (by simp [hb])⟩⟩
theorem getBy_mid {l r : List α} {x : α} (h : SrtBy nm (l ++ x :: r)) : getBy nm (nm x) (l ++ x :: r) = some x := by
  obtain ⟨h1, _, _⟩ := h.parts
  unfold getBy
  rw [List.find?_append, List.find?_eq_none.2 fun a ha => by simpa using bt_ne (h1 a ha)]
  simp
theorem getBy_some {n : Bt} {l : List α} {x : α} (h : getBy nm n l = some x) : ∃ l1 l2, l = l1 ++ x :: l2 ∧ nm x = n := by
  have h1 := List.find?_some h
  have h2 := List.mem_of_find?_eq_some h
  obtain ⟨l1, l2, e⟩ := List.append_of_mem h2
  exact ⟨l1, l2, e, by simpa using h1⟩
theorem getBy_none {n : Bt} {l : List α} (h : getBy nm n l = none) : ∀ a ∈ l, nm a ≠ n := fun a ha => by
  have := List.find?_eq_none.1 h a ha
  simpa using this
theorem getBy_none' {n : Bt} {l : List α} (h : ∀ a ∈ l, nm a ≠ n) : getBy nm n l = none := List.find?_eq_none.2 fun a ha => by simpa using h a ha
theorem putBy_mid {l r : List α} {x y : α} (h : SrtBy nm (l ++ x :: r)) (hy : nm y = nm x) : putBy nm y (l ++ x :: r) = l ++ y :: r := by
  induction l with
  | nil => simp [putBy, hy]
  | cons a l ih =>
    obtain ⟨h1, _, _⟩ := h.parts
    have ha : nm a < nm x := h1 a (by simp)
    have e1 : ¬ nm a = nm y := by rw [hy]; exact bt_ne ha
    have e2 : ¬ nm y < nm a := by rw [hy]; exact bt_asymm ha
    rw [List.cons_append, putBy, if_neg e1, if_neg e2, ih (List.Pairwise.of_cons h), List.cons_append]
theorem putBy_new {l : List α} {y : α} (h : SrtBy nm l) (hn : ∀ a ∈ l, nm a ≠ nm y) : ∃ l1 l2, l = l1 ++ l2 ∧ putBy nm y l = l1 ++ y :: l2 ∧ SrtBy nm (l1 ++ y :: l2) := by
  induction l with
  | nil => exact ⟨[], [], rfl, rfl, List.pairwise_singleton _ _⟩
  | cons a l ih =>
    have e1 : ¬ nm a = nm y := hn a (by simp)
    by_cases e2 : nm y < nm a
    · refine ⟨[], a :: l, rfl, by simp [putBy, e1, e2], ?_⟩
      obtain ⟨h1, h2⟩ := List.pairwise_cons.1 h
      refine List.pairwise_cons.2 ⟨fun b hb => ?_, h⟩
      rcases List.mem_cons.1 hb with rfl | hb
      · exact e2
      · exact bt_trans e2 (h1 b hb)
    · obtain ⟨h1, h2⟩ := List.pairwise_cons.1 h
      obtain ⟨l1, l2, g1, g2, g3⟩ := ih h2 fun b hb => hn b (by simp [hb])
      refine ⟨a :: l1, l2, by rw [g1]; rfl, by rw [putBy, if_neg e1, if_neg e2, g2]; rfl, ?_⟩
      refine List.pairwise_cons.2 ⟨fun b hb => ?_, g3⟩
      rcases List.mem_append.1 hb with hb | hb
      · exact h1 b (by rw [g1]; simp [hb])
      · rcases List.mem_cons.1 hb with rfl | hb
        · exact (bt_tri (nm a) (nm b)).resolve_right fun h => h.elim e1 e2
        · exact h1 b (by rw [g1]; simp [hb])
theorem delBy_mid {l r : List α} {x : α} (h : SrtBy nm (l ++ x :: r)) : delBy nm (nm x) (l ++ x :: r) = l ++ r := by
  obtain ⟨h1, h2, _⟩ := h.parts
  unfold delBy
  rw [List.filter_append, List.filter_cons]
  simp only [bne_self_eq_false, Bool.false_eq_true, if_false]
  congr 1
  · exact List.filter_eq_self.2 fun a ha => by simpa using bt_ne (h1 a ha)
  · exact List.filter_eq_self.2 fun a ha => by simpa using (bt_ne (h2 a ha)).symm
theorem delBy_none {l : List α} {n : Bt} (h : ∀ a ∈ l, nm a ≠ n) : delBy nm n l = l := List.filter_eq_self.2 fun a ha => by simpa using h a ha
theorem SrtBy.put {l : List α} (h : SrtBy nm l) (y : α) : SrtBy nm (putBy nm y l) := by
  cases hg : getBy nm (nm y) l with
  | none =>
    obtain ⟨l1, l2, _, h2, h3⟩ := putBy_new h (getBy_none hg)
    rw [h2]; exact h3
  | some x =>
    obtain ⟨l1, l2, rfl, hx⟩ := getBy_some hg
    rw [putBy_mid h hx.symm]
    have h' := h
    obtain ⟨h1, h2, h3⟩ := h.parts
    obtain ⟨g1, g2, g3⟩ := List.pairwise_append.1 h3
    refine List.pairwise_append.2 ⟨g1, List.pairwise_cons.2 ⟨fun b hb => by rw [← hx]; exact h2 b hb, g2⟩, fun a ha b hb => ?_⟩
    rcases List.mem_cons.1 hb with rfl | hb
    · rw [← hx]; exact h1 a ha
    · exact g3 a ha b hb
theorem SrtBy.del {l : List α} (h : SrtBy nm l) (n : Bt) : SrtBy nm (delBy nm n l) := List.Pairwise.sublist List.filter_sublist h
theorem SrtBy.nodup {l : List α} (h : SrtBy nm l) : (l.map nm).Nodup := List.pairwise_map.2 (h.imp bt_ne)
theorem getBy_put {l : List α} (h : SrtBy nm l) (y : α) (n : Bt) : getBy nm n (putBy nm y l) = if nm y = n then some y else getBy nm n l := by
  have hf : ∀ (l1 l2 : List α) (z : α), SrtBy nm (l1 ++ z :: l2) → nm z ≠ n → getBy nm n (l1 ++ z :: l2) = getBy nm n (l1 ++ l2) := fun l1 l2 z _ hz => by
    unfold getBy
    rw [List.find?_append, List.find?_append, List.find?_cons]
    have : (nm z == n) = false := by simpa using hz
    rw [this]
  have hp := h.put y
  cases hg : getBy nm (nm y) l with
  | none =>
    obtain ⟨l1, l2, e, h2, h3⟩ := putBy_new h (getBy_none hg)
    rw [h2]
    split
    · rename_i hn; rw [← hn]; exact getBy_mid h3
    · rename_i hn; rw [hf _ _ _ h3 hn, e]
  | some x =>
    obtain ⟨l1, l2, e, hx⟩ := getBy_some hg
    subst e
    rw [putBy_mid h hx.symm] at hp ⊢
    split
    · rename_i hn; rw [← hn]; exact getBy_mid hp
    · rename_i hn; rw [hf _ _ _ hp hn, hf _ _ _ h (by rw [hx]; exact hn)]
theorem getBy_del {l : List α} (h : SrtBy nm l) (m n : Bt) : getBy nm n (delBy nm m l) = if m = n then none else getBy nm n l := by
  split
  · rename_i hm; subst hm
    exact getBy_none' fun a ha => by have := (List.mem_filter.1 ha).2; simpa using this
  · rename_i hm
    induction l with
    | nil => rfl
    | cons a l ih =>
      have ih := ih (List.Pairwise.of_cons h)
      unfold delBy getBy at ih ⊢
      rw [List.filter_cons, List.find?_cons]
      by_cases ha : nm a = m
      · have e1 : (nm a != m) = false := by simp [ha]
        have e2 : (nm a == n) = false := by rw [ha]; simpa using hm
        rw [e1, e2]; simpa using ih
      · have e1 : (nm a != m) = true := by simpa using ha
        rw [e1, if_pos rfl, List.find?_cons]
        split <;> simp_all
theorem putBy_map {β : Type} {mm : β → Bt} (g : α → β) (hg : ∀ a, mm (g a) = nm a) (y : α) (l : List α) : (putBy nm y l).map g = putBy mm (g y) (l.map g) := by
  induction l with
  | nil => rfl
  | cons a l ih =>
    simp only [putBy, List.map_cons, hg]
    split
    · rfl
    · split
      · rfl
      · rw [List.map_cons, ih]
/-- Two lists in order that hold the same are the same. -/
theorem SrtBy.ext {l l' : List α} (h : SrtBy nm l) (h' : SrtBy nm l') (he : ∀ a, a ∈ l ↔ a ∈ l') : l = l' := by
  induction l generalizing l' with
  | nil =>
    cases l' with
    | nil => rfl
    | cons b l' => exact absurd ((he b).2 (by simp)) (by simp)
  | cons a l ih =>
    cases l' with
    | nil => exact absurd ((he a).1 (by simp)) (by simp)
    | cons b l' =>
      obtain ⟨h1, h2⟩ := List.pairwise_cons.1 h
      obtain ⟨h3, h4⟩ := List.pairwise_cons.1 h'
      have hab : a = b := by
        rcases List.mem_cons.1 ((he a).1 (by simp)) with e | e
        · exact e
        · rcases List.mem_cons.1 ((he b).2 (by simp)) with e' | e'
          · exact e'.symm
          · exact absurd (h3 a e) (bt_asymm (h1 b e'))
      subst hab
      congr 1
      refine ih h2 h4 fun x => ⟨fun hx => ?_, fun hx => ?_⟩
      · rcases List.mem_cons.1 ((he x).1 (by simp [hx])) with e | e
        · subst e; exact absurd (h1 x hx) (bt_irrefl _)
        · exact e
      · rcases List.mem_cons.1 ((he x).2 (by simp [hx])) with e | e
        · subst e; exact absurd (h3 x hx) (bt_irrefl _)
        · exact e
end
/-! ### A disk's files -/
def usedD (D : Fls) : Nat := (D.map (·.bytes.length)).sum
abbrev getF (n : Bt) (D : Fls) : Option Fl := getBy Fl.name n D
abbrev putF (f : Fl) (D : Fls) : Fls := putBy Fl.name f D
abbrev delF (n : Bt) (D : Fls) : Fls := delBy Fl.name n D
theorem used_mid (l r : Fls) (f : Fl) : usedD (l ++ f :: r) = usedD (l ++ r) + f.bytes.length := by simp [usedD]; omega
structure DOk (room : Nat) (D : Fls) : Prop where
  srt : SrtBy Fl.name D
  used : usedD D ≤ room
  room : room ≤ 9223372036854775807
  sync : ∀ f ∈ D, f.synced ≤ f.bytes.length
  names : ∀ f ∈ D, f.name.length ≤ 64
def okName (n : Bt) : Bool := decide (n ≠ []) && decide (n.length ≤ 64)
def bytesOf (n : Bt) (D : Fls) : Bt := ((getF n D).map (·.bytes)).getD []
def syncedOf (n : Bt) (D : Fls) : Nat := ((getF n D).map (·.synced)).getD 0
/-- Append: an error, or the disk behind it. -/
def appendD (room : Nat) (D : Fls) (n data : Bt) : Int × Fls :=
  if okName n = false then (2, D) else if room < usedD D + data.length then (7, D) else (0, putF ⟨n, bytesOf n D ++ data, syncedOf n D⟩ D)
def syncD (D : Fls) (n : Bt) : Int × Fls := match getF n D with
  | none => (5, D)
  | some f => (0, putF ⟨n, f.bytes, f.bytes.length⟩ D)
def readD (D : Fls) (n : Bt) : Bt × Int := match getF n D with
  | none => ([], 5)
  | some f => (f.bytes, 0)
def removeD (D : Fls) (n : Bt) : Int × Fls := match getF n D with
  | none => (5, D)
  | some _ => (0, delF n D)
def renameD (D : Fls) (n m : Bt) : Int × Fls := match getF n D with
  | none => (5, D)
  | some f => if okName m = false then (2, D) else if n = m then (0, D) else (0, putF ⟨m, f.bytes, f.synced⟩ (delF n D))
def listD (D : Fls) (p : Bt) : List Bt := (D.map (·.name)).filter (p.isPrefixOf ·)
/-- What a crash leaves of a file of which u bytes are not synced. -/
def leftOf (k : Option Int) (u : Nat) : Nat := match k with
  | none => 0
  | some x => (x % ((u : Int) + 1)).toNat
def crashF (k : Option Int) (f : Fl) : Fl := ⟨f.name, f.bytes.take (f.synced + leftOf k (f.bytes.length - f.synced)), f.synced + leftOf k (f.bytes.length - f.synced)⟩
def crashD (keep : List Int) : Nat → Fls → Fls
  | _, [] => []
  | k, f :: l => crashF keep[k]? f :: crashD keep (k + 1) l
theorem leftOf_le (k : Option Int) (u : Nat) : leftOf k u ≤ u := by
  unfold leftOf
  split
  · omega
  · rename_i x
    have h1 := Int.emod_nonneg x (b := (u : Int) + 1) (by omega)
    have h2 := Int.emod_lt_of_pos x (b := (u : Int) + 1) (by omega)
    omega
theorem crashF_len {k : Option Int} {f : Fl} (h : f.synced ≤ f.bytes.length) : (crashF k f).bytes.length = f.synced + leftOf k (f.bytes.length - f.synced) := by
  have := leftOf_le k (f.bytes.length - f.synced)
  simp only [crashF, List.length_take]; omega
theorem used_put_le {D : Fls} {f g : Fl} {room : Nat} (h : SrtBy Fl.name D) (hg : getF g.name D = some f) : usedD (putF g D) + f.bytes.length = usedD D + g.bytes.length := by
  obtain ⟨l1, l2, rfl, hx⟩ := getBy_some hg
  rw [putF, putBy_mid h hx.symm, used_mid, used_mid]; omega
theorem used_put_new {D : Fls} {g : Fl} (h : SrtBy Fl.name D) (hg : getF g.name D = none) : usedD (putF g D) = usedD D + g.bytes.length := by
  obtain ⟨l1, l2, e, h2, h3⟩ := putBy_new h (getBy_none hg)
  rw [putF, h2, used_mid, e]
theorem used_del {D : Fls} {f : Fl} {n : Bt} (h : SrtBy Fl.name D) (hg : getF n D = some f) : usedD (delF n D) + f.bytes.length = usedD D := by
  obtain ⟨l1, l2, rfl, hx⟩ := getBy_some hg
  rw [← hx, delF, delBy_mid h, used_mid]
theorem mem_put {D : Fls} {g f : Fl} (h : SrtBy Fl.name D) (hf : f ∈ putF g D) : f = g ∨ (f ∈ D ∧ f.name ≠ g.name) := by
  have hs := h.put (nm := Fl.name) g
  by_cases hn : f.name = g.name
  · left
    have h1 : getF g.name (putF g D) = some g := by rw [getF, putF, getBy_put h, if_pos rfl]
    obtain ⟨l1, l2, e⟩ := List.append_of_mem hf
    have h2 : getF f.name (putF g D) = some f := by
      have hs' : SrtBy Fl.name (l1 ++ f :: l2) := e ▸ hs
      rw [e]; exact getBy_mid hs'
    rw [hn, h1] at h2
    exact (Option.some.inj h2).symm
  · right
    obtain ⟨l1, l2, e⟩ := List.append_of_mem hf
    have h2 : getF f.name (putF g D) = some f := by
      have hs' : SrtBy Fl.name (l1 ++ f :: l2) := e ▸ hs
      rw [e]; exact getBy_mid hs'
    rw [getF, putF, getBy_put h, if_neg (Ne.symm hn)] at h2
    exact ⟨List.mem_of_find?_eq_some h2, hn⟩
theorem sync_le {room : Nat} {D : Fls} (h : DOk room D) {n : Bt} {f : Fl} (hg : getF n D = some f) : f.synced ≤ f.bytes.length := h.sync f (List.mem_of_find?_eq_some hg)
theorem DOk.append {room : Nat} {D : Fls} (h : DOk room D) (n data : Bt) : DOk room (appendD room D n data).2 := by
  unfold appendD
  split
  · exact h
  · rename_i hnm
    split
    · exact h
    · refine ⟨h.srt.put _, ?_, h.room, fun f hf => ?_, fun f hf => ?_⟩
      · cases hg : getF n D with
        | none => rw [used_put_new h.srt hg]; simp [bytesOf, hg]; omega
        | some x =>
          have := used_put_le (g := ⟨n, bytesOf n D ++ data, syncedOf n D⟩) (room := room) h.srt hg
          simp [bytesOf, hg] at this ⊢; omega
      · rcases mem_put h.srt hf with rfl | ⟨hf, _⟩
        · cases hg : getF n D with
          | none => simp [bytesOf, syncedOf, hg]
          | some x => have := sync_le h hg; simp [bytesOf, syncedOf, hg]; omega
        · exact h.sync f hf
      · rcases mem_put h.srt hf with rfl | ⟨hf, _⟩
        · simp [okName] at hnm; exact hnm.2
        · exact h.names f hf
theorem names_get {room : Nat} {D : Fls} (h : DOk room D) {n : Bt} {f : Fl} (hg : getF n D = some f) : n.length ≤ 64 := by
  have h1 := List.find?_some hg
  have h2 := h.names f (List.mem_of_find?_eq_some hg)
  have : f.name = n := by simpa using h1
  rw [← this]; exact h2
theorem DOk.put_same {room : Nat} {D : Fls} (h : DOk room D) {f : Fl} {n : Bt} (hg : getF n D = some f) (b : Bt) (s : Nat) (hb : b.length ≤ f.bytes.length) (hs : s ≤ b.length) : DOk room (putF ⟨n, b, s⟩ D) := by
  refine ⟨h.srt.put _, ?_, h.room, fun x hx => ?_, fun x hx => ?_⟩
  · have := used_put_le (g := ⟨n, b, s⟩) (room := room) h.srt hg
    have h2 := h.used
    have h3 : (Fl.mk n b s).bytes.length = b.length := rfl
    omega
  · rcases mem_put h.srt hx with rfl | ⟨hx, _⟩
    · exact hs
    · exact h.sync x hx
  · rcases mem_put h.srt hx with rfl | ⟨hx, _⟩
    · exact names_get h hg
    · exact h.names x hx
theorem DOk.sync' {room : Nat} {D : Fls} (h : DOk room D) (n : Bt) : DOk room (syncD D n).2 := by
  unfold syncD
  split
  · exact h
  · rename_i f hg; exact h.put_same hg _ _ (Nat.le_refl _) (Nat.le_refl _)
theorem DOk.del {room : Nat} {D : Fls} (h : DOk room D) (n : Bt) : DOk room (delF n D) := by
  refine ⟨h.srt.del _, ?_, h.room, fun x hx => h.sync x (List.mem_filter.1 hx).1, fun x hx => h.names x (List.mem_filter.1 hx).1⟩
  cases hg : getF n D with
  | none => rw [delF, delBy_none (getBy_none hg)]; exact h.used
  | some f => have := used_del h.srt hg; have := h.used; omega
theorem DOk.remove {room : Nat} {D : Fls} (h : DOk room D) (n : Bt) : DOk room (removeD D n).2 := by
  unfold removeD
  split
  · exact h
  · exact h.del n
theorem DOk.rename {room : Nat} {D : Fls} (h : DOk room D) (n m : Bt) : DOk room (renameD D n m).2 := by
  unfold renameD
  split
  · exact h
  · rename_i f hg
    split
    · exact h
    · rename_i hom
      split
      · exact h
      · rename_i hne
        have hd := h.del n
        have hu := used_del h.srt hg
        have hle := h.used
        refine ⟨hd.srt.put _, ?_, h.room, fun x hx => ?_, fun x hx => ?_⟩
        · cases hm : getF m (delF n D) with
          | none => rw [used_put_new hd.srt hm]; show _ + f.bytes.length ≤ _; omega
          | some y =>
            have := used_put_le (g := ⟨m, f.bytes, f.synced⟩) (room := room) hd.srt hm
            have h3 : (Fl.mk m f.bytes f.synced).bytes.length = f.bytes.length := rfl
            show usedD (putF ⟨m, f.bytes, f.synced⟩ (delF n D)) ≤ room
            omega
        · rcases mem_put hd.srt hx with rfl | ⟨hx, _⟩
          · exact sync_le (f := f) h hg
          · exact hd.sync x hx
        · rcases mem_put hd.srt hx with rfl | ⟨hx, _⟩
          · simp [okName] at hom; exact hom.2
          · exact hd.names x hx
theorem crashD_names (keep : List Int) : ∀ (k : Nat) (D : Fls), (crashD keep k D).map (·.name) = D.map (·.name)
  | _, [] => rfl
  | k, f :: l => by rw [crashD, List.map_cons, crashD_names keep (k + 1) l]; rfl
theorem crashD_get (keep : List Int) : ∀ (k : Nat) (D : Fls) (i : Nat), (crashD keep k D)[i]? = (D[i]?).map (crashF keep[k + i]?)
  | _, [], i => by simp [crashD]
  | k, f :: l, 0 => by simp [crashD]
  | k, f :: l, i + 1 => by rw [crashD, List.getElem?_cons_succ, crashD_get keep (k + 1) l i, List.getElem?_cons_succ, show k + 1 + i = k + (i + 1) by omega]
theorem used_crash (keep : List Int) : ∀ (k : Nat) (D : Fls), (∀ f ∈ D, f.synced ≤ f.bytes.length) → usedD (crashD keep k D) ≤ usedD D
  | _, [], _ => Nat.le_refl _
  | k, f :: l, h => by
    have h1 := used_crash keep (k + 1) l fun x hx => h x (by simp [hx])
    have h2 := crashF_len (k := keep[k]?) (h f (by simp))
    have h3 := leftOf_le keep[k]? (f.bytes.length - f.synced)
    have h4 := h f (by simp)
    have e1 : usedD (f :: l) = f.bytes.length + usedD l := by simp [usedD]
    have e2 : usedD (crashD keep k (f :: l)) = (crashF keep[k]? f).bytes.length + usedD (crashD keep (k + 1) l) := by simp [usedD, crashD]
    rw [e1, e2, h2]; omega
theorem DOk.crash {room : Nat} {D : Fls} (h : DOk room D) (keep : List Int) : DOk room (crashD keep 0 D) := by
  refine ⟨?_, Nat.le_trans (used_crash keep 0 D h.sync) h.used, h.room, fun x hx => ?_, fun x hx => ?_⟩
  · have := (List.pairwise_map (f := Fl.name) (R := fun a b => a < b) (l := crashD keep 0 D)).1 (by rw [crashD_names]; exact List.pairwise_map.2 h.srt)
    exact this
  · obtain ⟨i, hi⟩ := List.mem_iff_getElem?.1 hx
    rw [crashD_get] at hi
    obtain ⟨f, hf, rfl⟩ := Option.map_eq_some_iff.1 hi
    rw [crashF_len (h.sync f (List.mem_of_getElem? hf))]
    exact Nat.le_refl _
  · have : x.name ∈ D.map (·.name) := by rw [← crashD_names keep 0]; exact List.mem_map.2 ⟨x, hx, rfl⟩
    obtain ⟨y, hy, e⟩ := List.mem_map.1 this
    rw [← e]; exact h.names y hy
#print axioms DOk.crash
end Go.Proofs.YtdngjkjoahgelaaGreatDoor
