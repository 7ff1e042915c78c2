/-
  The executor: new variables, literals, slices cut.
-/
import Derived.Test.YtajoljoegbeiiaaGreatDoorEx9
namespace Go.Proofs.YtajoljoegbeiiaaGreatDoor
set_option linter.all false
namespace Ex
open Go.RowKit
section
variable {P : Program} {m : Mz} {h : Hp} {nx : Nat} {w : World} {fr : Fm} {a : Act} {sz : Nat} {o : Oper} {r : Rs}
/-- Cells laid anew. -/
theorem newBk_ok (hW : WR P m h nx w) {l : List AV} {us : List Value} (hv : VRL m l us) {n : Nat} (hn : l.length = n) (cs : Array Value) (hpre : ∀ (i : Nat) (u : Value), us[i]? = some u → cs[i]? = some u) (e : TypeId) (fx : Bool) (ext : Nat)
    (hs : n + ext * P.cellsOf e ≤ cs.size) (hfx : fx = true → ext = 0 ∧ cs.size = n) (fz : Nat × Nat) (hfz : FzOk fz cs.size 0) (hf0 : fx = true → fz = (0, 0)) :
    WR P (upd m nx ⟨w.heap.size, 0, ext⟩) (newCells h nx l n e fx) (nx + 1) (w.alloc (.cells cs e fz)) ∧ Evo m h w (upd m nx ⟨w.heap.size, 0, ext⟩) (newCells h nx l n e fx) (w.alloc (.cells cs e fz)) := by
  have hle := upd_le (⟨w.heap.size, 0, ext⟩ : Cz) (hW.fresh nx (Nat.le_refl _))
  refine hW.alloc (.cells cs e fz) (.cells (newBk l n e fx)) ⟨w.heap.size, 0, ext⟩ rfl ⟨_, cs, fz, upd_at _ _ _, heap_alloc_new w _, ?_, ?_, ?_, ?_, ?_, ?_⟩
  · show 0 + n + ext * P.cellsOf e ≤ cs.size; omega
  · intro i hi
    have hi : i < n := hi
    obtain ⟨v, hv1⟩ : ∃ v, l[i]? = some v := ⟨_, List.getElem?_eq_getElem (by omega)⟩
    obtain ⟨u, hu, hvu⟩ := hv.get i v hv1
    refine ⟨u, by rw [Nat.zero_add]; exact hpre i u hu, ?_⟩
    show VR _ ((treeOf un l 0 .nil).get un i) u
    rw [treeOf_get, if_pos (Nat.zero_le _), Nat.sub_zero, hv1]
    exact hvu.mono hle
  · intro _; exact hfz
  · intro hc; exact (hfx hc).1
  · intro hc _; exact ⟨rfl, (hfx hc).2⟩
  · intro hc _ _; exact hf0 hc
theorem fz_none (size a : Nat) : FzOk (0, 0) size a := fun j _ _ h => by simp at h
/-- A variable of one value. -/
theorem mkBox_ok (hW : WR P m h nx w) {v : AV} {u : Value} (hv : VR m v u) (t : TypeId) : ∃ m', WR P m' (mkBox t h nx v).h (mkBox t h nx v).nx (w.alloc (.cells u.cells t)) ∧ VR m' (mkBox t h nx v).v (.pointer (some ⟨w.heap.size, 0, none⟩)) ∧ Evo m h w m' (mkBox t h nx v).h (w.alloc (.cells u.cells t)) := by
  have hl := hv.cells.length
  have h1 := newBk_ok hW hv.cells rfl u.cells (fun i x hx => by rw [← Array.getElem?_toList]; exact hx) t true 0 (by rw [hl, Array.length_toList]; omega) (fun _ => ⟨rfl, by rw [hl, Array.length_toList]⟩) (0, 0) (fz_none _ _) (fun _ => rfl)
  exact ⟨_, h1.1, .ptr 0 (upd_at m nx _), h1.2⟩
theorem d_alloc (hW : WR P m h nx w) {t : TypeId} (ho : o.op = .alloc t) (hr : oAlloc t P fr h nx = some r) : Did P m h w o a r := by
  obtain ⟨v, hv, rfl⟩ := map_some hr
  obtain ⟨i, u, hi, hz, hov, hrun⟩ := run_zero hv
  obtain ⟨m', h1, h2, h3⟩ := mkBox_ok hW (ofV_ok m 10 u v hov) t
  refine ⟨_, _, m', .inl ?_, h1, h2, h3⟩
  simp [execOp, ho, Instr.alloc, hrun, newVar, newRow]
theorem d_box (hW : WR P m h nx w) (hF : FR m fr a.tmps sz) {t : TypeId} {x : Operand} (ho : o.op = .box t x) (hr : oBox t x P fr h nx = some r) : Did P m h w o a r := by
  obtain ⟨v, hv, rfl⟩ := map_some hr
  obtain ⟨m', h1, h2, h3⟩ := mkBox_ok hW (evA_ok hW hF hv) t
  refine ⟨_, _, m', .inl ?_, h1, h2, h3⟩
  simp [execOp, ho, Instr.box, newVar, newRow]
/-! ### Literals -/
theorem foldl_set (off : Nat) : ∀ (vs : List Value) (j : Nat) (cs : Array Value) (i : Nat), off + j + vs.length ≤ cs.size →
    (((vs.zipIdx j).foldl (fun cs (c, j) => cs.setIfInBounds (off + j) c) cs)[i]? = if i < off + j then cs[i]? else if i < off + j + vs.length then vs[i - (off + j)]? else cs[i]?) ∧
    ((vs.zipIdx j).foldl (fun cs (c, j) => cs.setIfInBounds (off + j) c) cs).size = cs.size
  | [], j, cs, i, _ => by
    simp only [List.zipIdx_nil, List.foldl_nil, List.length_nil, Nat.add_zero, and_true]
    split <;> rfl
  | v :: vs, j, cs, i, hl => by
    rw [List.zipIdx_cons, List.foldl_cons]
    simp only [List.length_cons] at hl
    have ih := foldl_set off vs (j + 1) (cs.setIfInBounds (off + j) v) i (by simp; omega)
    refine ⟨?_, by rw [ih.2]; simp⟩
    rw [ih.1]
    simp only [Array.getElem?_setIfInBounds, List.length_cons]
    by_cases h1 : i < off + j
    · simp only [show i < off + (j + 1) by omega, h1, if_true, show ¬ off + j = i by omega, if_false]
    · by_cases h2 : i = off + j
      · subst h2
        simp only [show off + j < off + (j + 1) by omega, if_true, show ¬ off + j < off + j by omega, if_false, show off + j < off + j + (vs.length + 1) by omega, Nat.sub_self, List.getElem?_cons_zero, show off + j < cs.size by omega]
      · simp only [show ¬ i < off + (j + 1) by omega, h1, if_false, show ¬ off + j = i by omega, show off + (j + 1) + vs.length = off + j + (vs.length + 1) by omega]
        by_cases h3 : i < off + j + (vs.length + 1)
        · simp only [h3, if_true, show i - (off + j) = (i - (off + (j + 1))) + 1 by omega, List.getElem?_cons_succ]
        · simp only [h3, if_false]
theorem putCells_len (cs : List AV) (o : Nat) (l : List AV) (hl : o + l.length ≤ cs.length) : (putCells cs o l).length = cs.length := by
  unfold putCells; simp; omega
theorem fill_ok {place : Nat → Option Pl} {place' : Nat → Option (Nat × Nat)} (hpl : ∀ i p, place i = some p → place' i = some (p.o, p.n)) : ∀ (ps : List Pt) (qs : List (Nat × Value)) (cs : List AV) (us : Array Value) (out : List AV),
    ps.length = qs.length → (∀ (k : Nat) (p : Pt), ps[k]? = some p → ∃ q : Nat × Value, qs[k]? = some q ∧ q.1 = p.i ∧ VR m p.v q.2) → VRL m cs us.toList → fillA place ps cs = some out → ∃ out', Instr.fill place' us qs = some out' ∧ VRL m out out'.toList
  | [], [], cs, us, out, _, _, hv, hf => by cases hf; exact ⟨us, rfl, hv⟩
  | [], _ :: _, _, _, _, hl, _, _, _ => by simp at hl
  | _ :: _, [], _, _, _, hl, _, _, _ => by simp at hl
  | p :: ps, (qi, qv) :: qs, cs, us, out, hl, hq, hv, hf => by
    obtain ⟨cs1, h1, h2⟩ := bind_some (show ((place p.i).bind (fill1 cs p.v)).bind (fillA place ps) = some out from hf)
    obtain ⟨pl, hp, h1⟩ := bind_some h1
    obtain ⟨hc, h1⟩ := cond_some h1
    cases h1
    obtain ⟨hc1, hc2⟩ := Bool.and_eq_true_iff.1 hc
    have hc1 : p.v.cells.length = pl.n := Nat.eq_of_beq_eq_true hc1
    have hc2 : pl.o + pl.n ≤ cs.length := Nat.le_of_ble_eq_true hc2
    obtain ⟨q, hq0, hqi, hqv⟩ := hq 0 p rfl
    simp at hq0; subst hq0
    have hqi : qi = p.i := hqi
    have hqv : VR m p.v qv := hqv
    subst hqi
    have hcl : p.v.cells.length = qv.cells.toList.length := VRL.length hqv.cells
    have hul := hv.length
    have hsize : qv.cells.size = pl.n := by rw [← Array.length_toList, ← hcl, hc1]
    have hus : us.size = cs.length := by rw [← Array.length_toList, hul]
    have hfold := fun i => foldl_set pl.o qv.cells.toList 0 us i (by rw [Array.length_toList, hsize, hus]; omega)
    obtain ⟨us1, hus1⟩ : ∃ us1, (qv.cells.zipIdx.foldl (fun cs (c, j) => cs.setIfInBounds (pl.o + j) c) us) = us1 := ⟨_, rfl⟩
    have hfold' : (qv.cells.toList.zipIdx 0).foldl (fun cs (c, j) => cs.setIfInBounds (pl.o + j) c) us = us1 := by
      rw [← hus1, ← Array.foldl_toList, Array.toList_zipIdx]
    rw [hfold'] at hfold
    have hv1 : VRL m (putCells cs pl.o p.v.cells) us1.toList := by
      refine VRL.of_get ?_ fun i v hi => ?_
      · have e1 := (hfold 0).2
        have e2 := Array.length_toList (xs := us1)
        rw [putCells_len _ _ _ (by omega)]; omega
      · rw [Array.getElem?_toList, (hfold i).1]
        simp only [Nat.add_zero]
        unfold putCells at hi
        by_cases a1 : i < pl.o
        · rw [if_pos a1]
          rw [List.getElem?_append_left (by rw [List.length_take]; omega), List.getElem?_take, if_pos a1] at hi
          obtain ⟨u, hu, hvu⟩ := hv.get i v hi
          exact ⟨u, by rw [← Array.getElem?_toList]; exact hu, hvu⟩
        · rw [if_neg a1]
          rw [List.getElem?_append_right (by rw [List.length_take]; omega), List.length_take, Nat.min_eq_left (by omega)] at hi
          by_cases a2 : i < pl.o + qv.cells.toList.length
          · rw [if_pos a2]
            rw [List.getElem?_append_left (by omega)] at hi
            exact hqv.cells.get _ v hi
          · rw [if_neg a2]
            rw [List.getElem?_append_right (by omega), List.getElem?_drop, show pl.o + p.v.cells.length + (i - pl.o - p.v.cells.length) = i by omega] at hi
            obtain ⟨u, hu, hvu⟩ := hv.get i v hi
            exact ⟨u, by rw [← Array.getElem?_toList]; exact hu, hvu⟩
    obtain ⟨out', h3, h4⟩ := fill_ok hpl ps qs (putCells cs pl.o p.v.cells) us1 out (by simpa using hl) (fun k x hx => by simpa using hq (k + 1) x (by simpa using hx)) hv1 h2
    refine ⟨out', ?_, h4⟩
    have hp' := hpl _ _ hp
    simp only [Instr.fill, hp', hsize, hus]
    rw [if_neg (by simp; omega), hus1]
    exact h3
theorem evP_ok (hW : WR P m h nx w) (hF : FR m fr a.tmps sz) : ∀ {ps : List (Nat × Operand)} {l : List Pt}, evP fr ps = some l → l.length = ps.length ∧ ∀ (k : Nat) (p : Pt), l[k]? = some p → ∃ q : Nat × Value, (ps.map fun (i, x) => (i, a.eval x))[k]? = some q ∧ q.1 = p.i ∧ VR m p.v q.2
  | [], l, he => by cases he; exact ⟨rfl, fun k p hk => by simp at hk⟩
  | (i, x) :: ps, l, he => by
    obtain ⟨y, ys, h1, h2, rfl⟩ := consO_some (show consO (evPt fr (i, x)) (evP fr ps) = some l from he)
    obtain ⟨v, hv, rfl⟩ := map_some h1
    obtain ⟨ih1, ih2⟩ := evP_ok hW hF h2
    refine ⟨by simp [ih1], fun k p hk => ?_⟩
    cases k with
    | zero => simp at hk; subst hk; exact ⟨_, rfl, rfl, evA_ok hW hF hv⟩
    | succ k => simpa using ih2 k p (by simpa using hk)
theorem placesT_ok : ∀ {fs : List Field} {l : List Pl}, placesT P fs = some l → ∀ w : World, ∃ ps : List (Nat × Nat), (fs.mapM fun f => Prod.mk f.offset <$> sizeOf f.type : Sem (List (Nat × Nat))).run P w = .ok ps w ∧ ps = l.map fun p => (p.o, p.n)
  | [], l, hl, w => by cases hl; exact ⟨[], by simp, rfl⟩
  | f :: fs, l, hl, w => by
    obtain ⟨y, ys, h1, h2, rfl⟩ := consO_some (show consO ((sizeT P f.type).map fun n => (⟨f.offset, n⟩ : Pl)) (placesT P fs) = some l from hl)
    obtain ⟨n, hn, rfl⟩ := map_some h1
    obtain ⟨ps, h3, h4⟩ := placesT_ok h2 w
    refine ⟨(f.offset, n) :: ps, ?_, by rw [h4]; rfl⟩
    simp [List.mapM_cons, run_sizeOf hn, h3]
theorem buildA_ok (hW : WR P m h nx w) {t : TypeId} {ps : List Pt} {qs : Array (Nat × Value)} (hl : ps.length = qs.toList.length) (hq : ∀ (k : Nat) (p : Pt), ps[k]? = some p → ∃ q : Nat × Value, qs.toList[k]? = some q ∧ q.1 = p.i ∧ VR m p.v q.2) {v : AV} (hb : buildA P t ps = some v) :
    ∃ u, (Instr.build t qs).run P w = .ok u w ∧ VR m v u := by
  obtain ⟨z, hz, hb⟩ := bind_some hb
  obtain ⟨u, hu, hb⟩ := bind_some hb
  obtain ⟨i, zv, hi, hz0, hov, hrun⟩ := run_zero hz
  have hzr := (ofV_ok m 10 zv z hov).cells
  unfold buildU at hb
  cases hf : fieldsD u with
  | some fs =>
    rw [hf] at hb
    obtain ⟨l, hl1, hb⟩ := bind_some (show (placesT P fs).bind (buildS ps z) = some v from hb)
    obtain ⟨out, ho, rfl⟩ := map_some hb
    cases u <;> first | (cases hf; done) | skip
    rename_i fa
    cases hf
    obtain ⟨pl, hpl, hple⟩ := placesT_ok hl1 w
    obtain ⟨out', h3, h4⟩ := fill_ok (m := m) (place := nthPl l) (place' := fun i => pl[i]?) (fun i p hp => by
      have hp : l[i]? = some p := hp
      show pl[i]? = _
      rw [hple, List.getElem?_map, hp]; rfl) ps qs.toList z.cells zv.cells out hl hq hzr ho
    refine ⟨.agg out', ?_, .agg h4⟩
    have hm : (fa.mapM fun f => Prod.mk f.offset <$> sizeOf f.type : Sem (Array (Nat × Nat))).run P w = .ok pl.toArray w := by
      rw [Array.mapM_eq_mapM_toList]
      simp [hpl]
    simp [Instr.build, hrun, run_underlying hu, hm, h3]
  | none =>
    rw [hf] at hb
    cases ha : arrD u with
    | none => rw [ha] at hb; cases hb
    | some ar =>
      rw [ha] at hb
      obtain ⟨n, hn, hb⟩ := bind_some (show (sizeT P ar.e).bind (buildR ps z) = some v from hb)
      obtain ⟨out, ho, rfl⟩ := map_some hb
      have hu' := arrD_some ha
      subst hu'
      obtain ⟨out', h3, h4⟩ := fill_ok (m := m) (place := rowPl n) (place' := fun i => some (i * n, n)) (fun i p hp => by cases hp; rfl) ps qs.toList z.cells zv.cells out hl hq hzr ho
      refine ⟨.agg out', ?_, .agg h4⟩
      simp [Instr.build, hrun, run_underlying hu, run_sizeOf hn, h3]
theorem d_build (hW : WR P m h nx w) (hF : FR m fr a.tmps sz) {t : TypeId} {ps : Array (Nat × Operand)} (ho : o.op = .build t ps) (hr : oBuild t ps P fr h nx = some r) : Did P m h w o a r := by
  obtain ⟨v, hv, rfl⟩ := pv_some hr
  obtain ⟨l, hl, hv⟩ := bind_some hv
  obtain ⟨h1, h2⟩ := evP_ok hW hF hl
  obtain ⟨u, hu, hvu⟩ := buildA_ok hW (qs := ps.map fun (i, x) => (i, a.eval x)) (by simpa using h1) (fun k p hk => by simpa using h2 k p hk) hv
  exact did_val hW (u := u) (by simp [execOp, ho, hu]) hvu
end
end Ex
end Go.Proofs.YtajoljoegbeiiaaGreatDoor
