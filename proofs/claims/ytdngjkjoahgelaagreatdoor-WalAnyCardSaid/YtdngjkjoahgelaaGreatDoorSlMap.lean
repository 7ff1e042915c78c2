/-
  Maps with string keys, in the small separation logic: 'smap mb kvs' (block mb is a map of just these keys and values, in whatever order); look-up, update, delete, make at an operation.
-/
import Derived.Test.YtdngjkjoahgelaaGreatDoorSlMore
namespace Go.Proofs.YtdngjkjoahgelaaGreatDoor
set_option linter.all false
open Go.RowKit
abbrev strV (s : List UInt8) : Value := .string ⟨s.toArray⟩
theorem strV_inj {a b : List UInt8} (h : strV a = strV b) : a = b := by
  have := Value.string.inj h
  have := ByteArray.mk.inj this
  exact Array.toList_inj.2 this |> (by simpa using ·)
/-- A world in which one object has turned. -/
abbrev wPut (w : World) (b : Nat) (o : Obj) : World := { w with heap := w.heap.setIfInBounds b o }
theorem getMap_run {P : Program} {w : World} {b : Nat} {es : Array MapEntry} {cl : Nat} (hb : w.heap[b]? = some (.map es cl)) : (getObj b).run P w = .ok (.map es cl) w := by simp [getObj, Sem.run, hb]
/-- Keys with values, no key twice. -/
structure MapOk (es : List MapEntry) (cl : Nat) (kvs : List (List UInt8 × Value)) : Prop where
  perm : (es.map fun e => (e.key, e.val)).Perm (kvs.map fun p => (strV p.1, p.2))
  born : ∀ e ∈ es, e.born < cl
  nodup : (es.map (·.born)).Nodup
  keys : (kvs.map (·.1)).Nodup
def smap (mb : Nat) (kvs : List (List UInt8 × Value)) : HP := fun h => ∃ es cl, h mb = some (.map es cl) ∧ MapOk es.toList cl kvs
theorem findNow_str (s : ByteArray) : ∀ (es : List MapEntry) (i : Nat), (∀ e ∈ es, ∃ k, e.key = .string k) →
    (Instr.findNow .string (.string s) es i = some none ∧ ∀ e ∈ es, e.key ≠ .string s) ∨
    ∃ j e, es[j]? = some e ∧ e.key = .string s ∧ Instr.findNow .string (.string s) es i = some (some (i + j, e.val))
  | [], i, _ => .inl ⟨rfl, fun e he => by cases he⟩
  | e :: es, i, h => by
    obtain ⟨k, hk⟩ := h e (by simp)
    by_cases hs : s = k
    · subst hs
      have hb : (s == s) = true := by rw [beq_toListBytes]; simp
      exact .inr ⟨0, e, rfl, hk, by simp [Instr.findNow, Instr.sameNow, hk, hb]⟩
    · have hb : (s == k) = false := by
        rw [beq_toListBytes, ByteArray.toList_eq, ByteArray.toList_eq]
        refine beq_eq_false_iff_ne.2 fun hc => hs (ByteArray.ext (Array.toList_inj.1 hc))
      rcases findNow_str s es (i + 1) (fun e he => h e (by simp [he])) with ⟨h1, h2⟩ | ⟨j, e', h1, h2, h3⟩
      · refine .inl ⟨by simp [Instr.findNow, Instr.sameNow, hk, hb, h1], fun e' he' => ?_⟩
        rcases List.mem_cons.1 he' with rfl | he'
        · rw [hk]; intro hc; exact hs (Value.string.inj hc).symm
        · exact h2 e' he'
      · exact .inr ⟨j + 1, e', by simpa using h1, h2, by simp [Instr.findNow, Instr.sameNow, hk, hb, h3]; omega⟩
section
variable {es : List MapEntry} {cl : Nat} {kvs kvs' : List (List UInt8 × Value)} {k : List UInt8} {v : Value}
theorem MapOk.str (h : MapOk es cl kvs) : ∀ e ∈ es, ∃ k, e.key = .string k := fun e he => by
  have : (e.key, e.val) ∈ es.map fun e => (e.key, e.val) := List.mem_map.2 ⟨e, he, rfl⟩
  obtain ⟨p, _, hp⟩ := List.mem_map.1 (h.perm.mem_iff.1 this)
  exact ⟨_, (Prod.mk.inj hp).1.symm⟩
theorem MapOk.val (h : MapOk es cl kvs) (hv : (k, v) ∈ kvs) {e : MapEntry} (he : e ∈ es) (hk : e.key = strV k) : e.val = v := by
  have : (e.key, e.val) ∈ es.map fun e => (e.key, e.val) := List.mem_map.2 ⟨e, he, rfl⟩
  obtain ⟨p, hp1, hp⟩ := List.mem_map.1 (h.perm.mem_iff.1 this)
  obtain ⟨h1, h2⟩ := Prod.mk.inj hp
  have h1 := strV_inj (h1.trans hk)
  have : p = (k, v) := by
    obtain ⟨i, hi, hpi⟩ := List.mem_iff_getElem.1 hp1
    obtain ⟨j, hj, hvj⟩ := List.mem_iff_getElem.1 hv
    have hij : i = j := by
      refine (List.getElem_inj (i := i) (j := j) (h₀ := by simpa using hi) (h₁ := by simpa using hj) h.keys).1 ?_
      simp [hpi, hvj, h1]
    subst hij
    rw [← hpi, hvj]
  rw [this] at h2
  exact h2.symm
theorem MapOk.has (h : MapOk es cl kvs) (hv : (k, v) ∈ kvs) : ∃ e ∈ es, e.key = strV k := by
  have : (strV k, v) ∈ kvs.map fun p => (strV p.1, p.2) := List.mem_map.2 ⟨_, hv, rfl⟩
  obtain ⟨e, he, hp⟩ := List.mem_map.1 (h.perm.mem_iff.2 this)
  exact ⟨e, he, (Prod.mk.inj hp).1⟩
theorem MapOk.hasNot (h : MapOk es cl kvs) (hk : k ∉ kvs.map (·.1)) : ∀ e ∈ es, e.key ≠ strV k := fun e he hc => by
  have : (e.key, e.val) ∈ es.map fun e => (e.key, e.val) := List.mem_map.2 ⟨e, he, rfl⟩
  obtain ⟨p, hp1, hp⟩ := List.mem_map.1 (h.perm.mem_iff.1 this)
  exact hk (List.mem_map.2 ⟨p, hp1, strV_inj ((Prod.mk.inj hp).1.trans hc)⟩)
theorem MapOk.find_hit (h : MapOk es cl kvs) (hv : (k, v) ∈ kvs) : ∃ j e, es[j]? = some e ∧ e.key = strV k ∧ e.val = v ∧ Instr.findNow .string (strV k) es 0 = some (some (j, v)) := by
  rcases findNow_str ⟨k.toArray⟩ es 0 h.str with ⟨_, h2⟩ | ⟨j, e, h1, h2, h3⟩
  · obtain ⟨e, he, hk⟩ := h.has hv
    exact absurd hk (h2 e he)
  · have := h.val hv (List.mem_of_getElem? h1) h2
    rw [this, Nat.zero_add] at h3
    exact ⟨j, e, h1, h2, this, h3⟩
theorem MapOk.find_miss (h : MapOk es cl kvs) (hk : k ∉ kvs.map (·.1)) : Instr.findNow .string (strV k) es 0 = some none := by
  rcases findNow_str ⟨k.toArray⟩ es 0 h.str with ⟨h1, _⟩ | ⟨j, e, h1, h2, h3⟩
  · exact h1
  · exact absurd h2 (h.hasNot hk e (List.mem_of_getElem? h1))
theorem keys_filter (k : List UInt8) (kvs : List (List UInt8 × Value)) (h : (kvs.map (·.1)).Nodup) : ((kvs.filter (·.1 != k)).map (·.1)).Nodup := h.sublist (List.filter_sublist.map _)
/-- In a list with one entry of a key: the others. -/
theorem rest_filter {es : List MapEntry} {kvs : List (List UInt8 × Value)} (h : MapOk es cl kvs) {j : Nat} {e : MapEntry} (he : es[j]? = some e) (hk : e.key = strV k) :
    ((es.eraseIdx j).map fun e => (e.key, e.val)).Perm ((kvs.filter (·.1 != k)).map fun p => (strV p.1, p.2)) := by
  obtain ⟨p, hp1, hp⟩ : ∃ p ∈ kvs, (strV p.1, p.2) = (e.key, e.val) := List.mem_map.1 (h.perm.mem_iff.1 (List.mem_map.2 ⟨e, List.mem_of_getElem? he, rfl⟩))
  obtain ⟨pk, pv⟩ := p
  obtain ⟨hp2, hp3⟩ := Prod.mk.inj hp
  have hpk := strV_inj (hp2.trans hk)
  simp only at hpk hp3
  subst hpk
  obtain ⟨i, hi, hpi⟩ := List.mem_iff_getElem.1 hp1
  have hf : kvs.filter (·.1 != pk) = kvs.eraseIdx i := by
    have hsp : kvs = kvs.take i ++ (pk, pv) :: kvs.drop (i + 1) := by rw [← hpi]; simp
    have hnd := h.keys
    rw [hsp, List.map_append, List.map_cons] at hnd
    obtain ⟨_, hb, hc⟩ := List.nodup_append.1 hnd
    obtain ⟨hb1, _⟩ := List.nodup_cons.1 hb
    rw [List.eraseIdx_eq_take_drop_succ]
    conv => lhs; rw [hsp]
    rw [List.filter_append, List.filter_cons]
    simp only [bne_self_eq_false, Bool.false_eq_true, if_false]
    congr 1
    · refine List.filter_eq_self.2 fun a ha => ?_
      have := hc a.1 (List.mem_map.2 ⟨a, ha, rfl⟩) pk (by simp)
      simpa using this
    · refine List.filter_eq_self.2 fun a ha => ?_
      have : a.1 ≠ pk := fun hc' => hb1 (List.mem_map.2 ⟨a, ha, hc'⟩)
      simpa using this
  rw [hf]
  have e1 : (es.map fun e => (e.key, e.val)).Perm ((strV pk, pv) :: (es.eraseIdx j).map fun e => (e.key, e.val)) := by
    have hj := (List.getElem?_eq_some_iff.1 he)
    obtain ⟨hlt, hej⟩ := hj
    have : es.Perm (e :: es.eraseIdx j) := by
      rw [List.eraseIdx_eq_take_drop_succ]
      conv => lhs; rw [show es = es.take j ++ e :: es.drop (j + 1) by rw [← hej]; simp]
      exact List.perm_middle
    have := this.map fun e => (e.key, e.val)
    rw [List.map_cons] at this
    rw [← hp2, ← hp3] at this
    exact this
  have e2 : (kvs.map fun p => (strV p.1, p.2)).Perm ((strV pk, pv) :: (kvs.eraseIdx i).map fun p => (strV p.1, p.2)) := by
    have : kvs.Perm ((pk, pv) :: kvs.eraseIdx i) := by
      rw [List.eraseIdx_eq_take_drop_succ]
      conv => lhs; rw [show kvs = kvs.take i ++ (pk, pv) :: kvs.drop (i + 1) by rw [← hpi]; simp]
      exact List.perm_middle
    exact this.map fun p => (strV p.1, p.2)
  exact List.Perm.cons_inv ((e1.symm.trans h.perm).trans e2)
theorem MapOk.hit_upd (h : MapOk es cl kvs) {j : Nat} {e : MapEntry} (he : es[j]? = some e) (hk : e.key = strV k) (hp : kvs'.Perm ((k, v) :: kvs.filter (·.1 != k))) :
    MapOk (es.modify j fun e => { e with key := strV k, val := v }) cl kvs' := by
  obtain ⟨hlt, hej⟩ := List.getElem?_eq_some_iff.1 he
  have hm : es.modify j (fun e => { e with key := strV k, val := v }) = es.take j ++ { e with key := strV k, val := v } :: es.drop (j + 1) := by
    rw [List.modify_eq_take_cons_drop hlt, hej]
  have hr := rest_filter h he hk
  rw [List.eraseIdx_eq_take_drop_succ] at hr
  have hborn : (es.modify j fun e => { e with key := strV k, val := v }).map (·.born) = es.map (·.born) := by
    rw [hm]
    conv => rhs; rw [show es = es.take j ++ e :: es.drop (j + 1) by rw [← hej]; simp]
    simp
  refine ⟨?_, fun x hx => ?_, by rw [hborn]; exact h.nodup, ?_⟩
  · rw [hm, List.map_append, List.map_cons]
    refine List.perm_middle.trans ?_
    rw [← List.map_append]
    refine (hr.cons _).trans ?_
    exact ((hp.map fun p => (strV p.1, p.2)).symm)
  · have : x.born ∈ (es.modify j fun e => { e with key := strV k, val := v }).map (·.born) := List.mem_map.2 ⟨x, hx, rfl⟩
    rw [hborn] at this
    obtain ⟨y, hy, hyx⟩ := List.mem_map.1 this
    rw [← hyx]; exact h.born y hy
  · refine ((hp.map (·.1)).nodup_iff).2 ?_
    rw [List.map_cons]
    refine List.nodup_cons.2 ⟨fun hc => ?_, keys_filter k kvs h.keys⟩
    obtain ⟨p, hp1, hp2⟩ := List.mem_map.1 hc
    have := (List.mem_filter.1 hp1).2
    simp at hp2
    simp [hp2] at this
theorem MapOk.miss_upd (h : MapOk es cl kvs) (hk : k ∉ kvs.map (·.1)) (hp : kvs'.Perm ((k, v) :: kvs.filter (·.1 != k))) :
    MapOk (es ++ [{ key := strV k, val := v, born := cl }]) (cl + 1) kvs' := by
  have hf : kvs.filter (·.1 != k) = kvs := List.filter_eq_self.2 fun a ha => by
    have : a.1 ≠ k := fun hc => hk (List.mem_map.2 ⟨a, ha, hc⟩)
    simpa using this
  rw [hf] at hp
  refine ⟨?_, fun x hx => ?_, ?_, ?_⟩
  · rw [List.map_append, List.map_cons, List.map_nil]
    refine (List.perm_append_comm).trans ?_
    exact (h.perm.cons (strV k, v)).trans (hp.map fun p : List UInt8 × Value => (strV p.1, p.2)).symm
  · rcases List.mem_append.1 hx with hx | hx
    · have := h.born x hx; omega
    · simp at hx; subst hx; show cl < cl + 1; omega
  · rw [List.map_append, List.map_cons, List.map_nil]
    refine List.nodup_append.2 ⟨h.nodup, by simp, fun a ha b hb => ?_⟩
    simp at hb
    obtain ⟨x, hx, hxa⟩ := List.mem_map.1 ha
    have := h.born x hx
    omega
  · refine ((hp.map (·.1)).nodup_iff).2 ?_
    rw [List.map_cons]
    exact List.nodup_cons.2 ⟨hk, h.keys⟩
theorem MapOk.hit_del (h : MapOk es cl kvs) {j : Nat} {e : MapEntry} (he : es[j]? = some e) (hk : e.key = strV k) (hp : kvs'.Perm (kvs.filter (·.1 != k))) : MapOk (es.eraseIdx j) cl kvs' :=
  ⟨(rest_filter h he hk).trans (hp.map fun p => (strV p.1, p.2)).symm, fun x hx => h.born x (List.mem_of_mem_eraseIdx hx), h.nodup.sublist ((List.eraseIdx_sublist _ _).map _),
    ((hp.map (·.1)).nodup_iff).2 (keys_filter k kvs h.keys)⟩
theorem MapOk.of_perm (h : MapOk es cl kvs) (hp : kvs'.Perm kvs) : MapOk es cl kvs' :=
  ⟨h.perm.trans (hp.map fun p => (strV p.1, p.2)).symm, h.born, h.nodup, ((hp.map (·.1)).nodup_iff).2 h.keys⟩
end
section
variable {P : Program} {B w : World} {L : List HP} {mb : Nat} {kvs kvs' : List (List UInt8 × Value)} {k : List UInt8} {v z : Value} {t kt e : TypeId}
theorem Sat.smap_at (h : Sat B (smap mb kvs :: L) w) : ∃ es cl, w.heap[mb]? = some (.map es cl) ∧ MapOk es.toList cl kvs := by
  obtain ⟨a, ⟨es, cl, h1, h2⟩, h3⟩ := h.says
  exact ⟨es, cl, (h3 _ _ h1).1, h2⟩
theorem Sat.smap_perm (h : Sat B (smap mb kvs :: L) w) (hp : kvs'.Perm kvs) : Sat B (smap mb kvs' :: L) w := h.head fun _ ⟨es, cl, h1, h2⟩ => ⟨es, cl, h1, h2.of_perm hp⟩
theorem Sat.smap_put {es' : Array MapEntry} {cl' : Nat} (h : Sat B (smap mb kvs :: L) w) (hk : MapOk es'.toList cl' kvs') : Sat B (smap mb kvs' :: L) (wPut w mb (.map es' cl')) := by
  obtain ⟨es, cl, hh, _⟩ := h.smap_at
  have hlt := (Array.getElem?_eq_some_iff.1 hh).1
  refine h.turn rfl rfl rfl (by simp [wPut]) fun a ha _ => ⟨fun j => if j = mb then some (.map es' cl') else none, ⟨es', cl', by simp, hk⟩, ?_, ?_⟩
  · intro j o e
    simp only [] at e
    split at e
    · rename_i hj; subst hj; cases e
      obtain ⟨es0, cl0, ha0, _⟩ := ha
      refine ⟨?_, .inl (by rw [ha0]; simp)⟩
      simp [wPut, Array.getElem?_setIfInBounds, hlt]
    · cases e
  · intro j hj hak
    obtain ⟨es0, cl0, ha0, _⟩ := ha
    have : j ≠ mb := fun hc => by subst hc; rw [ha0] at hak; cases hak
    simp [wPut, Array.getElem?_setIfInBounds, Ne.symm this]
theorem checkKey_str (hk : P.underlying kt = some .string) (b : Bool) (s : ByteArray) (w : World) : (Instr.checkKey b 10000 kt (.string s)).run P w = .ok () w := by
  obtain ⟨d, hd⟩ : ∃ d, 10000 = d + 1 := ⟨9999, rfl⟩
  rw [hd]
  simp [Instr.checkKey, run_underlying hk]
theorem findKey_str (hk : P.underlying kt = some .string) {es : List MapEntry} {x : Option (Nat × Value)} (hf : Instr.findNow .string (strV k) es 0 = some x) (w : World) : (Instr.findKey kt (strV k) es).run P w = .ok x w := by
  simp [Instr.findKey, run_underlying hk, hf]
theorem run_setMap {b : Nat} {es es' : Array MapEntry} {cl cl' : Nat} (hb : w.heap[b]? = some (.map es cl)) : (setObj b (.map es' cl')).run P w = .ok () (wPut w b (.map es' cl')) := by
  simp [setObj, Sem.run, hb]
theorem run_lookup_hit (ht : P.underlying t = some (.map kt e)) (hk : P.underlying kt = some .string) (h : Sat B (smap mb kvs :: L) w) (hv : (k, v) ∈ kvs) (ok : Bool) :
    (Instr.lookup t (.map (some mb)) (strV k) ok).run P w = .ok (if ok then .tuple #[v, .bool true] else v) w := by
  obtain ⟨es, cl, hh, hm⟩ := h.smap_at
  obtain ⟨j, en, _, _, _, h4⟩ := hm.find_hit hv
  have := findKey_str (P := P) hk h4 w
  simp [Instr.lookup, run_underlying ht, getMap_run hh, checkKey_str hk, this]
theorem run_lookup_miss (ht : P.underlying t = some (.map kt e)) (hk : P.underlying kt = some .string) (hz : (P.info? e).map (·.zero) = some (some z)) (h : Sat B (smap mb kvs :: L) w) (hv : k ∉ kvs.map (·.1)) (ok : Bool) :
    (Instr.lookup t (.map (some mb)) (strV k) ok).run P w = .ok (if ok then .tuple #[z, .bool false] else z) w := by
  obtain ⟨es, cl, hh, hm⟩ := h.smap_at
  have := findKey_str (P := P) hk (hm.find_miss hv) w
  obtain ⟨i, hi, hiz⟩ := Option.map_eq_some_iff.1 hz
  have hzr : (zeroValue e).run P w = .ok z w := by simp [zeroValue, typeInfo, hi, hiz]
  simp [Instr.lookup, run_underlying ht, getMap_run hh, checkKey_str hk, this, hzr]
theorem run_update (ht : P.underlying t = some (.map kt e)) (hk : P.underlying kt = some .string) (h : Sat B (smap mb kvs :: L) w) (hp : kvs'.Perm ((k, v) :: kvs.filter (·.1 != k))) :
    ∃ w', (Instr.mapUpdate t (.map (some mb)) (strV k) v).run P w = .ok () w' ∧ Sat B (smap mb kvs' :: L) w' := by
  obtain ⟨es, cl, hh, hm⟩ := h.smap_at
  by_cases hin : k ∈ kvs.map (·.1)
  · obtain ⟨⟨pk, pv⟩, hp1, hp2⟩ := List.mem_map.1 hin
    simp only at hp2
    subst hp2
    obtain ⟨j, en, h1, h2, _, h4⟩ := hm.find_hit hp1
    have hf := findKey_str (P := P) hk h4 w
    have hkey : ((es[j]?).map (·.key)).getD (strV pk) = strV pk := by
      rw [← Array.getElem?_toList, h1]; simpa using h2
    have hst : (Instr.keyThatStays (strV pk) (strV pk)).run P w = .ok (strV pk) w := by
      obtain ⟨d, hd⟩ : ∃ d, 10000 = d + 1 := ⟨9999, rfl⟩
      have hbb : ((⟨pk.toArray⟩ : ByteArray) == ⟨pk.toArray⟩) = true := by rw [beq_toListBytes]; simp
      simp [Instr.keyThatStays, hd, Instr.sameBits, hbb]
    refine ⟨wPut w mb (.map (es.modify j fun e => { e with key := strV pk, val := v }) cl), ?_, h.smap_put (by rw [Array.toList_modify]; exact hm.hit_upd h1 h2 hp)⟩
    simp [Instr.mapUpdate, run_underlying ht, getMap_run hh, checkKey_str hk, hf, hkey, hst, run_setMap hh]
  · have hf := findKey_str (P := P) hk (hm.find_miss hin) w
    refine ⟨wPut w mb (.map (es.push { key := strV k, val := v, born := cl }) (cl + 1)), ?_, h.smap_put (by rw [Array.toList_push]; exact hm.miss_upd hin hp)⟩
    simp [Instr.mapUpdate, run_underlying ht, getMap_run hh, checkKey_str hk, hf, run_setMap hh]
theorem run_delete (ht : P.underlying t = some (.map kt e)) (hk : P.underlying kt = some .string) (h : Sat B (smap mb kvs :: L) w) (hp : kvs'.Perm (kvs.filter (·.1 != k))) (u ty : TypeId) :
    ∃ w', (Builtin.delete_ #[t, u] ty #[.map (some mb), strV k]).run P w = .ok (.tuple #[]) w' ∧ Sat B (smap mb kvs' :: L) w' := by
  obtain ⟨es, cl, hh, hm⟩ := h.smap_at
  by_cases hin : k ∈ kvs.map (·.1)
  · obtain ⟨⟨pk, pv⟩, hp1, hp2⟩ := List.mem_map.1 hin
    simp only at hp2
    subst hp2
    obtain ⟨j, en, h1, h2, _, h4⟩ := hm.find_hit hp1
    have hf := findKey_str (P := P) hk h4 w
    refine ⟨wPut w mb (.map (es.eraseIdxIfInBounds j) cl), ?_, h.smap_put (by rw [Array.toList_eraseIdxIfInBounds]; exact hm.hit_del h1 h2 hp)⟩
    simp [Builtin.delete_, run_underlying ht, getMap_run hh, checkKey_str hk, hf, run_setMap hh]
  · have hf := findKey_str (P := P) hk (hm.find_miss hin) w
    have hfl : kvs.filter (·.1 != k) = kvs := List.filter_eq_self.2 fun a ha => by
      have : a.1 ≠ k := fun hc => hin (List.mem_map.2 ⟨a, ha, hc⟩)
      simpa using this
    rw [hfl] at hp
    refine ⟨wPut w mb (.map es cl), ?_, h.smap_put (hm.of_perm hp)⟩
    simp [Builtin.delete_, run_underlying ht, getMap_run hh, checkKey_str hk, hf, run_setMap hh]
/-! ### At an operation -/
variable {ops : Array Oper} {rest : List Oper} {o : Oper} {a : Act} {Q : Exit → Act → World → Prop}
theorem wpList_lookup_hit (hgd : o.guard = none) (ht : P.underlying t = some (.map kt e)) (hk : P.underlying kt = some .string) (x y : Operand) (ho : o.op = .lookup t x y false) (hx : a.eval x = .map (some mb)) (hy : a.eval y = strV k)
    (h : Sat B (smap mb kvs :: L) w) (hv : (k, v) ∈ kvs) (hK : wpList P ops Q rest (a.put o.dst v) w) : wpList P ops Q (o :: rest) a w :=
  wpList_plain hgd fun _ hKK => by
    have hr := run_lookup_hit (P := P) ht hk h hv false
    unfold Oper.wp execOp
    simp only [ho, hx, hy, Sem.run_bind, Sem.run_pure, Result.andThen_ok, hr]
    exact hKK _ _ hK
theorem wpList_lookup_miss (hgd : o.guard = none) (ht : P.underlying t = some (.map kt e)) (hk : P.underlying kt = some .string) (hz : (P.info? e).map (·.zero) = some (some z)) (x y : Operand) (ho : o.op = .lookup t x y false) (hx : a.eval x = .map (some mb)) (hy : a.eval y = strV k)
    (h : Sat B (smap mb kvs :: L) w) (hv : k ∉ kvs.map (·.1)) (hK : wpList P ops Q rest (a.put o.dst z) w) : wpList P ops Q (o :: rest) a w :=
  wpList_plain hgd fun _ hKK => by
    have hr := run_lookup_miss (P := P) ht hk hz h hv false
    unfold Oper.wp execOp
    simp only [ho, hx, hy, Sem.run_bind, Sem.run_pure, Result.andThen_ok, hr]
    exact hKK _ _ hK
theorem wpList_mapUpdate (hgd : o.guard = none) (ht : P.underlying t = some (.map kt e)) (hk : P.underlying kt = some .string) (x y q : Operand) (ho : o.op = .mapUpdate t x y q) (hx : a.eval x = .map (some mb)) (hy : a.eval y = strV k) (hq : a.eval q = v)
    (h : Sat B (smap mb kvs :: L) w) (kvs' : List (List UInt8 × Value)) (hp : kvs'.Perm ((k, v) :: kvs.filter (·.1 != k))) (hK : ∀ w', Sat B (smap mb kvs' :: L) w' → wpList P ops Q rest (a.put o.dst undef) w') : wpList P ops Q (o :: rest) a w :=
  wpList_plain hgd fun _ hKK => by
    obtain ⟨w', hr, hs⟩ := run_update (P := P) ht hk h hp
    unfold Oper.wp execOp
    simp only [ho, hx, hy, hq, Sem.run_bind, Sem.run_pure, Result.andThen_ok, hr]
    exact hKK _ _ (hK w' hs)
theorem wpList_delete (hgd : o.guard = none) (ht : P.underlying t = some (.map kt e)) (hk : P.underlying kt = some .string) (x y : Operand) (u : TypeId) (ho : o.op = .call { callee := .builtin .delete, args := #[x, y], argTypes := #[t, u] }) (hx : a.eval x = .map (some mb)) (hy : a.eval y = strV k)
    (h : Sat B (smap mb kvs :: L) w) (kvs' : List (List UInt8 × Value)) (hp : kvs'.Perm (kvs.filter (·.1 != k))) (hK : ∀ w', Sat B (smap mb kvs' :: L) w' → wpList P ops Q rest (a.put o.dst (.tuple #[])) w') : wpList P ops Q (o :: rest) a w :=
  wpList_plain hgd fun _ hKK => by
    obtain ⟨w', hr, hs⟩ := run_delete (P := P) ht hk h hp u o.type
    unfold Oper.wp execOp
    simp only [ho, resolve, invoke, builtin, Sem.run_bind, Sem.run_pure, Result.andThen_ok, List.map_toArray, List.map_cons, List.map_nil, hx, hy, hr]
    exact hKK _ _ (hK w' hs)
theorem Sat.smap_new (h : Sat B L w) : Sat B (smap w.heap.size [] :: L) (w.alloc (.map #[] 0)) :=
  (h.alloc _).head fun _ hy => ⟨#[], 0, hy, ⟨List.Perm.refl _, fun e he => (by cases he), List.nodup_nil, List.nodup_nil⟩⟩
end
#print axioms wpList_mapUpdate
end Go.Proofs.YtdngjkjoahgelaaGreatDoor
