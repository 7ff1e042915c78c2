/-
  The executor: operands, loads, stores.
-/
import Derived.Test.YtajoljoegbeiiaaGreatDoorEx5
import Derived.WalkSpells
import Derived.WalkLawsBesides
namespace Go.Proofs.YtajoljoegbeiiaaGreatDoor
set_option linter.all false
namespace Ex
open Go.RowKit
theorem cond_some {α : Type} {c : Bool} {x : Option α} {v : α} (h : (bif c then x else none) = some v) : c = true ∧ x = some v := by
  cases c with
  | true => exact ⟨rfl, h⟩
  | false => cases h
theorem bind_some {α β : Type} {x : Option α} {f : α → Option β} {v : β} (h : x.bind f = some v) : ∃ a, x = some a ∧ f a = some v := Option.bind_eq_some_iff.1 h
theorem map_some {α β : Type} {x : Option α} {f : α → β} {v : β} (h : x.map f = some v) : ∃ a, x = some a ∧ f a = v := Option.map_eq_some_iff.1 h
theorem ofV_list {m : Mz} {f : Value → Option AV} (hf : ∀ v x, f v = some x → VR m x v) : ∀ (cs : List Value) (l : List AV), cs.mapM f = some l → VRL m l cs
  | [], l, h => by simp at h; subst h; exact .nil
  | c :: cs, l, h => by
    simp only [List.mapM_cons, Option.bind_eq_bind, Option.bind_eq_some_iff] at h
    obtain ⟨x, hx, ys, hys, h⟩ := h
    cases h
    exact .cons (hf _ _ hx) (ofV_list hf cs ys hys)
theorem ofV_ok (m : Mz) : ∀ (n : Nat) (v : Value) (x : AV), ofV n v = some x → VR m x v
  | 0, v, x, h => by cases h
  | n + 1, v, x, h => by
    cases v with
    | bool b => cases h; exact .bool b
    | int k z => cases h; exact .int k z
    | string s => cases h; exact .str _
    | pointer a => cases a with
      | none => cases h; exact .nilp
      | some a => cases h
    | slice a l c =>
      cases a with
      | some a => cases h
      | none =>
        cases l with
        | zero => cases c with
          | zero => cases h; exact .nils
          | succ c => cases h
        | succ l => cases h
    | map r => cases r with
      | none => cases h; exact .nilm
      | some a => cases h
    | nilFunc => cases h; exact .nilf
    | nilIface => cases h; exact .nili
    | iface t v =>
      obtain ⟨y, hy, rfl⟩ := map_some h
      exact .iface t (ofV_ok m n v y hy)
    | agg cs =>
      obtain ⟨y, hy, rfl⟩ := map_some h
      exact .agg (ofV_list (fun v x => ofV_ok m n v x) _ _ hy)
    | tuple cs =>
      obtain ⟨y, hy, rfl⟩ := map_some h
      exact .tup (ofV_list (fun v x => ofV_ok m n v x) _ _ hy)
    | float k b => cases h
    | complex k a b => cases h
    | chan r => cases h
    | func f a b => cases h
section
variable {P : Program} {m : Mz} {h : Hp} {nx : Nat} {w : World} {fr : Fm} {a : Act} {sz : Nat}
theorem evA_ok (hW : WR P m h nx w) (hF : FR m fr a.tmps sz) {x : Operand} {v : AV} (he : evA fr x = some v) : VR m v (a.eval x) := by
  cases x with
  | tmp t => cases he; exact hF.slot t
  | const c => exact ofV_ok m 10 c v he
  | global g =>
    obtain ⟨hg, he⟩ := cond_some (x := some (AV.ptr g 0)) he
    cases he
    have hg' : g < 1000 := by simpa using hg
    have := VR.ptr (m := m) 0 (hW.gl g hg')
    exact this
  | func f => cases he; exact .fn (.func f) .nil .nil
theorem consO_some {α : Type} {x : Option α} {l : Option (List α)} {r : List α} (he : consO x l = some r) : ∃ y ys, x = some y ∧ l = some ys ∧ r = y :: ys := by
  cases x with
  | none => cases he
  | some y => cases l with
    | none => cases he
    | some ys => cases he; exact ⟨y, ys, rfl, rfl, rfl⟩
theorem evL_cons (fr : Fm) (x : Operand) (l : List Operand) : evL fr (x :: l) = consO (evA fr x) (evL fr l) := rfl
theorem evL_ok (hW : WR P m h nx w) (hF : FR m fr a.tmps sz) : ∀ {l : List Operand} {vs : List AV}, evL fr l = some vs → VRL m vs (l.map a.eval)
  | [], vs, he => by cases he; exact .nil
  | x :: l, vs, he => by
    rw [evL_cons] at he
    obtain ⟨y, ys, h1, h2, rfl⟩ := consO_some he
    exact .cons (evA_ok hW hF h1) (evL_ok hW hF h2)
/-! ### Types -/
theorem run_under {t : TypeId} {u : TypeDesc} (hu : P.underlying t = some u) (w : World) : (underlying t).run P w = .ok u w := run_underlying hu w
theorem sizeT_some {t : TypeId} {n : Nat} (hs : sizeT P t = some n) : ∃ i, P.info? t = some i ∧ i.size = n := by
  obtain ⟨i, hi, rfl⟩ := map_some hs; exact ⟨i, hi, rfl⟩
theorem run_sizeOf {t : TypeId} {n : Nat} (hs : sizeT P t = some n) (w : World) : (sizeOf t).run P w = .ok n w := by
  obtain ⟨i, hi, rfl⟩ := sizeT_some hs
  simp [sizeOf, typeInfo, hi]
theorem cellsOf_eq {t : TypeId} {n : Nat} (hs : sizeT P t = some n) : P.cellsOf t = n := by
  obtain ⟨i, hi, rfl⟩ := sizeT_some hs
  simp [Program.cellsOf, hi]
theorem run_isAgg {t : TypeId} {g : Bool} (hg : aggT P t = some g) (w : World) : (isAgg t).run P w = .ok g w := by
  obtain ⟨u, hu, rfl⟩ := map_some hg
  cases u <;> simp [isAgg, run_underlying hu, aggD]
theorem run_zero {t : TypeId} {x : AV} (hz : zeroT P t = some x) : ∃ i v, P.info? t = some i ∧ i.zero = some v ∧ ofV 10 v = some x ∧ ∀ w, (zeroValue t).run P w = .ok v w := by
  obtain ⟨i, hi, hz⟩ := bind_some hz
  obtain ⟨v, hv, hx⟩ := bind_some hz
  exact ⟨i, v, hi, hv, hx, fun w => by simp [zeroValue, typeInfo, hi, hv]⟩
/-! ### Loads -/
theorem getBk_some {b : Nat} {k : Bk} (hb : getBk h b = some k) : h.get .dead b = .cells k := by
  unfold getBk bkO at hb
  cases hx : h.get .dead b with
  | cells k' => rw [hx] at hb; cases hb; rfl
  | _ => rw [hx] at hb; cases hb
theorem WR.bk (hW : WR P m h nx w) {b : Nat} {k : Bk} (hb : getBk h b = some k) : ∃ z cs fz, BR P m w b k z cs fz := by
  have := hW.rel b
  rw [getBk_some hb] at this
  exact this
theorem BR.cell {b : Nat} {k : Bk} {z : Cz} {cs : Array Value} {fz : Nat × Nat} (hB : BR P m w b k z cs fz) (j : Nat) : w.cell? ⟨z.blk, j, none⟩ = cs[j]? := cell_of_row w z.blk j cs k.e fz hB.hp
theorem addr_add (g off j : Nat) : (⟨g, off, none⟩ : Addr).add j = ⟨g, off + j, none⟩ := by unfold Addr.add; split <;> simp_all
theorem loadCell_ok (hW : WR P m h nx w) {b i : Nat} {v : AV} (hl : loadCell h b i = some v) : ∃ z u, m b = some z ∧ w.cell? ⟨z.blk, z.sh + i, none⟩ = some u ∧ VR m v u := by
  obtain ⟨k, hk, hl⟩ := bind_some hl
  obtain ⟨hi, hl⟩ := cond_some hl
  cases hl
  obtain ⟨z, cs, fz, hB⟩ := hW.bk hk
  obtain ⟨u, hu, hv⟩ := hB.here i (by simpa using hi)
  exact ⟨z, u, hB.hm, by rw [hB.cell]; exact hu, hv⟩
/-- 'n' cells as they lie. -/
theorem loadN_ok (hW : WR P m h nx w) {b o n : Nat} {l : List AV} (hl : loadN h b o n = some l) : ∃ z us, m b = some z ∧ us.length = n ∧ VRL m l us ∧ (∀ j u, us[j]? = some u → w.cell? ⟨z.blk, z.sh + o + j, none⟩ = some u) := by
  obtain ⟨k, hk, hl⟩ := bind_some hl
  obtain ⟨hi, hl⟩ := cond_some hl
  cases hl
  have hi : o + n ≤ k.n := by have := hi; simpa using this
  obtain ⟨z, cs, fz, hB⟩ := hW.bk hk
  refine ⟨z, (cs.toList.drop (z.sh + o)).take n, hB.hm, ?_, ?_, ?_⟩
  · have := hB.sz
    rw [List.length_take, List.length_drop, Array.length_toList]; omega
  · refine VRL.of_get ?_ fun i v hv => ?_
    · rw [listOf_len, List.length_take, List.length_drop, Array.length_toList]
      have := hB.sz; omega
    · have hin : i < n := by
        rcases Nat.lt_or_ge i n with h' | h'
        · exact h'
        · rw [List.getElem?_eq_none (by rw [listOf_len]; exact h')] at hv; cases hv
      rw [listOf_get _ _ _ _ _ hin] at hv
      cases hv
      obtain ⟨u, hu, hvr⟩ := hB.here (o + i) (by omega)
      refine ⟨u, ?_, hvr⟩
      rw [List.getElem?_take, if_pos hin, List.getElem?_drop, Array.getElem?_toList, Nat.add_assoc]
      exact hu
  · intro j u hu
    rw [List.getElem?_take] at hu
    split at hu
    · rw [List.getElem?_drop, Array.getElem?_toList] at hu
      rw [hB.cell]; exact hu
    · cases hu
theorem run_loadCells_us {z : Cz} {o n : Nat} {us : List Value} (hn : us.length = n) (hc : ∀ j u, us[j]? = some u → w.cell? ⟨z.blk, z.sh + o + j, none⟩ = some u) : (loadCells ⟨z.blk, z.sh + o, none⟩ n).run P w = .ok us.toArray w := by
  subst hn
  exact run_loadCells_list (P := P) w ⟨z.blk, z.sh + o, none⟩ us fun j v hv => by rw [addr_add]; exact hc j v hv
theorem loadV_ok (hW : WR P m h nx w) {t : TypeId} {b o : Nat} {v : AV} (hl : loadV P h t b o = some v) : ∃ z u, m b = some z ∧ (loadVar t ⟨z.blk, z.sh + o, none⟩).run P w = .ok u w ∧ VR m v u := by
  obtain ⟨g, hg, hl⟩ := bind_some hl
  cases g with
  | true =>
    have hl1 : ((sizeT P t).bind (loadN h b o)).map .agg = some v := hl
    obtain ⟨l, hl2, rfl⟩ := map_some hl1
    obtain ⟨n, hn, hl3⟩ := bind_some hl2
    obtain ⟨z, us, hz, hlen, hv, hc⟩ := loadN_ok hW hl3
    refine ⟨z, .agg us.toArray, hz, ?_, .agg (by simpa using hv)⟩
    simp [loadVar, run_isAgg hg, run_sizeOf hn, run_loadCells_us hlen hc]
  | false =>
    obtain ⟨z, u, hz, hc, hv⟩ := loadCell_ok hW (show loadCell h b o = some v from hl)
    exact ⟨z, u, hz, by simp [loadVar, run_isAgg hg, hc], hv⟩
/-! ### Stores -/
theorem run_storeCells_z (P : Program) (g o : Nat) (t : TypeId) (fz : Nat × Nat) : ∀ (vs : List Value) (i : Nat) (cur : Array Value) (w : World), w.heap[g]? = some (.cells cur t fz) → (∀ j, o + i ≤ j → j < cur.size → ¬ (fz.1 ≤ j ∧ j < fz.2)) → o + i + vs.length ≤ cur.size → (∀ v ∈ vs, v.oneCell' = true) →
    (storeCells ⟨g, o, none⟩ vs i).run P w = .ok () (w.setRow g (cur.toList.take (o + i) ++ vs ++ cur.toList.drop (o + i + vs.length)).toArray)
  | [], i, cur, w, hg, _, _, _ => by
    simp only [storeCells, List.append_nil, List.length_nil, Nat.add_zero, List.take_append_drop, Array.toArray_toList]
    rw [setRow_self w g cur t fz hg]
    rfl
  | v :: rest, i, cur, w, hg, hfz, hl, h1 => by
    have hi : o + i < cur.size := by simp at hl; omega
    have hcell : w.cell? ⟨g, o + i, none⟩ = some cur[o + i] := by simp [World.cell?, hg, hi]
    have hfro : w.frozen? ⟨g, o + i, none⟩ = false := by
      have h3 := hfz (o + i) (Nat.le_refl _) hi
      obtain ⟨lo, hi'⟩ := fz
      simp only [World.frozen?, hg, Bool.and_eq_false_iff, decide_eq_false_iff_not]
      simp only at h3
      omega
    have hst : (store ((⟨g, o, none⟩ : Addr).add i) v).run P w = .ok () (w.setRow g (cur.setIfInBounds (o + i) v)) := by
      rw [addr_add, run_store P w _ v _ (h1 v (by simp)), hcell]
      simp [hfro, setCell_eq_setRow w g (o + i) cur t fz v hg]
    have ih := run_storeCells_z P g o t fz rest (i + 1) (cur.setIfInBounds (o + i) v) (w.setRow g (cur.setIfInBounds (o + i) v)) (setRow_heap w g cur _ t _ hg) (fun j h1 h2 => hfz j (by omega) (by simpa using h2)) (by simp at hl ⊢; omega) (fun x hx => h1 x (by simp [hx]))
    simp only [storeCells, Sem.run_bind, hst, Result.andThen_ok, ih, setRow_setRow]
    congr 3
    have e := list_seg_step cur.toList (o + i) v rest (by simp at hl ⊢; omega)
    simpa [Array.toList_setIfInBounds, Nat.add_assoc] using e
theorem kill_get (b : Nat) : ∀ (l : List Nat) (h : Hp), (kill l h).get .dead b = if b ∈ l then .dead else h.get .dead b
  | [], h => by simp [kill]
  | x :: l, h => by
    show (kill l (h.set .dead x .dead)).get .dead b = _
    rw [kill_get b l, Tr.get_set]
    by_cases h1 : b ∈ l
    · simp [h1]
    · by_cases h2 : b = x
      · simp [h2]
      · simp [h1, h2]
theorem all_one : ∀ {l : List AV} {us : List Value}, l.all oneA = true → VRL m l us → ∀ u ∈ us, u.oneCell' = true
  | _, _, _, .nil => by simp
  | _, _, hl, .cons h1 h2 => by
    simp only [List.all_cons, Bool.and_eq_true] at hl
    intro u hu
    rcases List.mem_cons.1 hu with rfl | hu
    · exact oneA_of h1 hl.1
    · exact all_one hl.2 h2 u hu
theorem seg_get (cs : List Value) (us : List Value) (p i : Nat) (hp : p + us.length ≤ cs.length) : (cs.take p ++ us ++ cs.drop (p + us.length))[i]? = if i < p then cs[i]? else if i < p + us.length then us[i - p]? else cs[i]? := by
  by_cases h1 : i < p
  · rw [if_pos h1, List.append_assoc, List.getElem?_append_left (by rw [List.length_take]; omega), List.getElem?_take, if_pos h1]
  · rw [if_neg h1]
    by_cases h2 : i < p + us.length
    · rw [if_pos h2, List.append_assoc, List.getElem?_append_right (by rw [List.length_take]; omega), List.length_take, Nat.min_eq_left (by omega), List.getElem?_append_left (by omega)]
    · rw [if_neg h2, List.getElem?_append_right (by simp; omega), List.getElem?_drop]
      congr 1
      simp; omega
/-- 'us' into the cells of 'b' from 'o' on. -/
theorem storeN_ok (hW : WR P m h nx w) {b o : Nat} {l : List AV} {h' : Hp} (hs : storeN h b o l = some h') {us : List Value} (hv : VRL m l us) :
    ∃ z w', m b = some z ∧ (storeCells ⟨z.blk, z.sh + o, none⟩ us).run P w = .ok () w' ∧ WR P m h' nx w' ∧ Evo m h w m h' w' := by
  obtain ⟨k, hk, hs⟩ := bind_some hs
  obtain ⟨hok, hs⟩ := cond_some hs
  cases hs
  obtain ⟨hone, hmay⟩ := Bool.and_eq_true_iff.1 hok
  rw [lenL_eq] at hmay
  have hmay' : (((!k.ro) = true ∧ (!k.st) = true) ∧ Nat.ble (Nat.add o l.length) k.n = true) ∧ Nat.ble k.fz o = true := by
    unfold Bk.mayPut at hmay; simpa only [Bool.and_eq_true] using hmay
  obtain ⟨⟨⟨hro, hst⟩, hle⟩, hfz⟩ := hmay'
  have hro : k.ro = false := by simpa using hro
  have hst : k.st = false := by simpa using hst
  have hle : o + l.length ≤ k.n := Nat.le_of_ble_eq_true hle
  have hfz : k.fz ≤ o := Nat.le_of_ble_eq_true hfz
  obtain ⟨z, cs, fz, hB⟩ := hW.bk hk
  have hlen := hv.length
  have hsz := hB.sz
  have hrun := run_storeCells_z P z.blk (z.sh + o) k.e fz us 0 cs w hB.hp (fun j h1 h2 => hB.fr hst j (by omega) h2) (by omega) (all_one hone hv)
  simp only [Nat.add_zero] at hrun
  obtain ⟨cs', hcs'⟩ : ∃ cs', (cs.toList.take (z.sh + o) ++ us ++ cs.toList.drop (z.sh + o + us.length)).toArray = cs' := ⟨_, rfl⟩
  rw [hcs'] at hrun
  have hget : ∀ i, cs'[i]? = if i < z.sh + o then cs[i]? else if i < z.sh + o + us.length then us[i - (z.sh + o)]? else cs[i]? := fun i => by
    have hcl : cs.toList.length = cs.size := Array.length_toList
    rw [← hcs', List.getElem?_toArray, seg_get cs.toList us (z.sh + o) i (by omega)]
    simp only [Array.getElem?_toList]
  have hsz' : cs'.size = cs.size := by
    rw [← hcs']; simp; omega
  have hhere : ∀ i, i < k.n → ∃ u, cs'[z.sh + i]? = some u ∧ VR m ((treeOf k.d l o k.t).get k.d i) u := by
    intro i hi
    obtain ⟨u0, hu0, hv0⟩ := hB.here i hi
    rw [hget, treeOf_get]
    by_cases h1 : o ≤ i
    · rw [if_neg (by omega), if_pos h1]
      by_cases h2 : i < o + us.length
      · rw [if_pos (by omega), show z.sh + i - (z.sh + o) = i - o by omega]
        obtain ⟨v, hv1⟩ : ∃ v, l[i - o]? = some v := ⟨_, List.getElem?_eq_getElem (by omega)⟩
        obtain ⟨u, hu, hvu⟩ := hv.get (i - o) v hv1
        exact ⟨u, hu, by rw [hv1]; exact hvu⟩
      · rw [if_neg (by omega), List.getElem?_eq_none (by omega)]
        exact ⟨u0, hu0, hv0⟩
    · rw [if_pos (by omega), if_neg h1]
      exact ⟨u0, hu0, hv0⟩
  have hmk : ∀ anc bnd, BR P m (w.setRow z.blk cs') b (k.put o l anc bnd) z cs' fz := fun anc bnd =>
    ⟨hB.hm, setRow_heap w z.blk cs cs' k.e fz hB.hp, by rw [hsz']; exact hB.sz, hhere, fun h0 => by rw [hsz']; exact hB.fr h0, hB.fx, fun h0 h1 => by rw [hsz']; exact hB.whole h0 h1, hB.bare⟩
  refine ⟨z, _, hB.hm, hrun, ?_⟩
  show WR P m (putIn h b o l k) nx _ ∧ Evo m h w m (putIn h b o l k) _
  unfold putIn
  by_cases hc : (isNilL k.anc || Nat.ble k.bnd o) = true
  · rw [hc]
    refine hW.turn (k' := k.put o l k.anc k.bnd) (getBk_some hk) hro hst hB (setRow_heap w z.blk cs cs' k.e fz hB.hp) (fun j hj => setRow_other w z.blk j cs' hj) (by simp) rfl rfl rfl hsz' o (fun p hp => ?_) (hmk _ _) hro hst ?_ ?_ ?_
    · rw [hget, if_pos (by omega)]
    · show ((h.set .dead b _).get .dead b) = _; rw [Tr.get_set, if_pos rfl]
    · intro x hx; left; show ((h.set .dead b _).get .dead x) = _; rw [Tr.get_set, if_neg hx]
    · intro x hx hd hanc
      rcases Bool.or_eq_true_iff.1 hc with hc | hc
      · have : k.anc = [] := by
          cases ha : k.anc with
          | nil => rfl
          | cons a b => rw [ha] at hc; cases hc
        rw [this] at hanc; cases hanc
      · exact ⟨Nat.le_of_ble_eq_true hc, hanc, Nat.le_refl _⟩
  · have hc' : (isNilL k.anc || Nat.ble k.bnd o) = false := Bool.not_eq_true _ ▸ hc
    rw [hc']
    refine hW.turn (k' := k.put o l [] 0) (getBk_some hk) hro hst hB (setRow_heap w z.blk cs cs' k.e fz hB.hp) (fun j hj => setRow_other w z.blk j cs' hj) (by simp) rfl rfl rfl hsz' 0 (fun p hp => ?_) (hmk _ _) hro hst ?_ ?_ ?_
    · rw [hget, if_pos (by omega)]
    · show (((kill k.anc h).set .dead b _).get .dead b) = _; rw [Tr.get_set, if_pos rfl]
    · intro x hx
      have e : ((kill k.anc h).set .dead b (.cells (k.put o l [] 0))).get .dead x = if x ∈ k.anc then .dead else h.get .dead x := by rw [Tr.get_set, if_neg hx, kill_get]
      show (((kill k.anc h).set .dead b _).get .dead x) = _ ∨ _
      by_cases hm : x ∈ k.anc
      · right; show ((kill k.anc h).set .dead b _).get .dead x = _; rw [e, if_pos hm]
      · left; rw [e, if_neg hm]
    · intro x hx hd hanc
      exfalso; apply hd
      show ((kill k.anc h).set .dead b _).get .dead x = _
      rw [Tr.get_set, if_neg hx, kill_get, if_pos hanc]
theorem storeV_ok (hW : WR P m h nx w) {t : TypeId} {b o : Nat} {v : AV} {h' : Hp} (hs : storeV P h t b o v = some h') {u : Value} (hv : VR m v u) :
    ∃ z w', m b = some z ∧ (storeVar t ⟨z.blk, z.sh + o, none⟩ u).run P w = .ok () w' ∧ WR P m h' nx w' ∧ Evo m h w m h' w' := by
  obtain ⟨n, hn, hs⟩ := bind_some hs
  obtain ⟨hl, hs⟩ := cond_some hs
  rw [lenL_eq] at hl
  have hl : v.cells.length = n := Nat.eq_of_beq_eq_true hl
  obtain ⟨z, w', hz, hrun, hW', hE⟩ := storeN_ok hW hs hv.cells
  have hlen := hv.cells.length
  refine ⟨z, w', hz, ?_, hW', hE⟩
  have : u.cells.size = n := by rw [← Array.length_toList, ← hlen, hl]
  simp [storeVar, run_sizeOf hn, this, hrun]
end
end Ex
end Go.Proofs.YtajoljoegbeiiaaGreatDoor
