/-
  The executor: regions that draw their order.
-/
import Derived.Test.YtajoljoegbeiiaaGreatDoorExQ
namespace Go.Proofs.YtajoljoegbeiiaaGreatDoor
set_option linter.all false
namespace Ex
open Go.RowKit
section
variable {P : Program} {prim : Prim} {self : Self} {sz : Nat}
/-- What an operation that was taken first leans on. -/
inductive CR (m : Mz) (hd : Held) : Nat × (World → Prop) → Prop
  | any {i : Nat} {C : World → Prop} (h : ∀ w, C w) : CR m hd (i, C)
  | cells {i : Nat} {C : World → Prop} (b o : Nat) (z : Cz) (vs : List AV) (us : List Value) (hz : m b = some z) (hv : VRL m vs us) (hh : ∀ j v, vs[j]? = some v → (⟨i, b, o + j, v⟩ : Hd) ∈ hd)
      (hC : ∀ w, (∀ j u, us[j]? = some u → w.cell? ⟨z.blk, z.sh + o + j, none⟩ = some u) → C w)
      (hC' : ∀ w, C w → ∀ j u, us[j]? = some u → w.cell? ⟨z.blk, z.sh + o + j, none⟩ = some u) : CR m hd (i, C)
theorem CR.mono {m m' : Mz} {hd hd' : Held} {c : Nat × (World → Prop)} (hc : CR m hd c) (hm : Le m m') (hh : ∀ d ∈ hd, d ∈ hd') : CR m' hd' c := by
  cases hc with
  | any h => exact .any h
  | cells b o z vs us h1 h2 h3 h4 h5 => exact .cells b o z vs us (hm _ _ h1) (h2.mono hm) (fun j v hj => hh _ (h3 j v hj)) h4 h5
theorem heldsOf_cons (i b o : Nat) (v : AV) (vs : List AV) (l : Held) : heldsOf i b o (v :: vs) l = ⟨i, b, o, v⟩ :: heldsOf i b (o + 1) vs l := by rw [heldsOf]
theorem heldsOf_nil (i b o : Nat) (l : Held) : heldsOf i b o [] l = l := by rw [heldsOf]
theorem heldsOf_old {i b : Nat} : ∀ (vs : List AV) (o : Nat) (l : Held), ∀ d ∈ l, d ∈ heldsOf i b o vs l
  | [], _, _, _, h => by rw [heldsOf_nil]; exact h
  | v :: vs, o, l, d, h => by rw [heldsOf_cons]; exact List.mem_cons_of_mem _ (heldsOf_old vs (o + 1) _ d h)
theorem heldsOf_new {i b : Nat} : ∀ (vs : List AV) (o : Nat) (l : Held) (j : Nat) (v : AV), vs[j]? = some v → (⟨i, b, o + j, v⟩ : Hd) ∈ heldsOf i b o vs l
  | [], _, _, _, _, h => by simp at h
  | v :: vs, o, l, 0, _, h => by cases h; rw [heldsOf_cons]; exact List.mem_cons_self
  | x :: vs, o, l, j + 1, v, h => by
    have := heldsOf_new (i := i) (b := b) vs (o + 1) l j v (by simpa using h)
    rw [show o + 1 + j = o + (j + 1) by omega] at this
    rw [heldsOf_cons]; exact List.mem_cons_of_mem _ this
/-- What an effect leaves as it was. -/
theorem keeps_ok {ops : Array Oper} {i : Nat} {o : Oper} (hi : ops[i]? = some o) {m m' : Mz} {h' : Hp} {nx' : Nat} {w w' : World} {hd : Held} {S : Cs} (hS : ∀ c ∈ S, CR m hd c) (hm : Le m m') (hW : WR P m' h' nx' w') (hk : heldB o h' hd = true) : Keeps ops S i w w' := by
  intro c hc
  by_cases hwt : waitsOn o c.1 = true
  · left
    refine ⟨o, hi, ?_⟩
    obtain ⟨e, he, hb⟩ := Array.any_eq_true'.1 hwt
    obtain ⟨h1, h2⟩ := Bool.and_eq_true_iff.1 hb
    exact ⟨e, he, h1, Nat.eq_of_beq_eq_true h2⟩
  · right
    intro hC
    obtain ⟨ci, cC⟩ := c
    have := hS _ hc
    cases this with
    | any h => exact h w'
    | cells b q z vs us h1 h2 h3 h4 h5 =>
      refine h4 w' fun j u hj => ?_
      obtain ⟨v, hv⟩ : ∃ v, vs[j]? = some v := by
        have hl := h2.length
        have hlt := (List.getElem?_eq_some_iff.1 hj).1
        exact ⟨_, List.getElem?_eq_getElem (by omega)⟩
      obtain ⟨u', hu', hvu⟩ := h2.get j v hv
      rw [hj] at hu'; cases hu'
      have hall := List.all_eq_true.1 hk _ (h3 j v hv)
      unfold held1 at hall
      have hwt : waitsOn o (⟨ci, b, q + j, v⟩ : Hd).i = false := by simpa using hwt
      rw [hwt] at hall
      obtain ⟨y, hy, hs⟩ := map_some (getD_true (show ((loadCell h' b (q + j)).map (sameC v)).getD false = true from hall))
      obtain ⟨z', u2, hz', hcell, hvr⟩ := loadCell_ok hW hy
      rw [hm _ _ h1] at hz'; cases hz'
      have : u2 = u := eqAV_ok (show eqAV 6 y v = true from hs) hvr (hvu.mono hm)
      subst this
      rw [Nat.add_assoc]; exact hcell
/-- A load reads its cells, in whatever world. -/
theorem loadV_cells {m : Mz} {h : Hp} {nx : Nat} {w : World} (hW : WR P m h nx w) {t : TypeId} {b o : Nat} {v : AV} (hl : loadV P h t b o = some v) : ∃ z us u, m b = some z ∧ VRL m (bif (aggT P t).getD false then v.cells else [v]) us ∧
    (∀ j x, us[j]? = some x → w.cell? ⟨z.blk, z.sh + o + j, none⟩ = some x) ∧ VR m v u ∧ ∀ w' : World, (∀ j x, us[j]? = some x → w'.cell? ⟨z.blk, z.sh + o + j, none⟩ = some x) → (loadVar t ⟨z.blk, z.sh + o, none⟩).run P w' = .ok u w' := by
  obtain ⟨g, hg, hl⟩ := bind_some hl
  rw [hg]
  cases g with
  | true =>
    have hl1 : ((sizeT P t).bind (loadN h b o)).map .agg = some v := hl
    obtain ⟨l, hl2, rfl⟩ := map_some hl1
    obtain ⟨n, hn, hl3⟩ := bind_some hl2
    obtain ⟨z, us, hz, hlen, hv, hc⟩ := loadN_ok hW hl3
    refine ⟨z, us, .agg us.toArray, hz, hv, hc, .agg (by simpa using hv), fun w' hc' => ?_⟩
    simp [loadVar, run_isAgg hg, run_sizeOf hn, run_loadCells_us hlen hc']
  | false =>
    obtain ⟨z, u, hz, hc, hv⟩ := loadCell_ok hW (show loadCell h b o = some v from hl)
    refine ⟨z, [u], u, hz, .cons hv .nil, fun j x hj => ?_, hv, fun w' hc' => ?_⟩
    · cases j with
      | zero => cases hj; exact hc
      | succ j => simp at hj
    · have := hc' 0 u rfl
      simp only [Nat.add_zero] at this
      simp [loadVar, run_isAgg hg, this]
/-- Only the normal end. -/
def cut (Q : Exit → Act → World → Prop) : Exit → Act → World → Prop := fun e a w => match e with
  | .normal => Q .normal a w
  | _ => False
theorem isLoad_some {o : Op} {l : TypeId × Operand} (h : isLoad o = some l) : o = .load l.1 l.2 := by cases o <;> first | (cases h; rfl) | cases h
/-! ### New blocks, laid at any time -/
def newV (o : Op) (b : Nat) : Value := match o with
  | .buildSlice _ n _ => .slice (some ⟨b, 0, none⟩) n n
  | _ => .pointer (some ⟨b, 0, none⟩)
theorem newBk_at {m m' : Mz} {w' : World} {nx blk : Nat} {l : List AV} {us : List Value} (hv : VRL m l us) (hle : Le m m') {n : Nat} (hn : l.length = n) (cs : Array Value) (hpre : ∀ (i : Nat) (u : Value), us[i]? = some u → cs[i]? = some u) (e : TypeId) (hs : cs.size = n)
    (hm : m' nx = some ⟨blk, 0, 0⟩) (hp : w'.heap[blk]? = some (.cells cs e)) : OR P m' w' nx (.cells (newBk l n e true)) :=
  ⟨⟨blk, 0, 0⟩, cs, (0, 0), hm, hp, by show 0 + n + 0 * P.cellsOf e ≤ cs.size; rw [Nat.zero_mul]; omega, fun i hi => by
    have hi : i < n := hi
    obtain ⟨v, hv1⟩ : ∃ v, l[i]? = some v := ⟨_, List.getElem?_eq_getElem (by omega)⟩
    obtain ⟨u, hu, hvu⟩ := hv.get i v hv1
    refine ⟨u, by rw [Nat.zero_add]; exact hpre i u hu, ?_⟩
    show VR _ ((treeOf un l 0 .nil).get un i) u
    rw [treeOf_get, if_pos (Nat.zero_le _), Nat.sub_zero, hv1]
    exact hvu.mono hle, fun _ => fz_none _ _, fun _ => rfl, fun _ _ => ⟨rfl, hs⟩, fun _ _ _ => rfl⟩
theorem rowZ_all {el : TypeId} {n z : Nat} {l : List AV} (hz : rowZ P el n z = some l) (m : Mz) :
    l.length = n * z ∧ ∃ zero : Array Value, (∀ w : World, ((if n * z = 0 then pure #[] else do pure (← zeroValue el).cells) : Sem (Array Value)).run P w = .ok zero w) ∧ VRL m l ((Array.range (n * z)).map (zero[· % zero.size]!)).toList := by
  by_cases h0 : n * z = 0
  · have hb : Nat.beq (n * z) 0 = true := by rw [beq_eq]; exact decide_eq_true h0
    unfold rowZ at hz
    rw [hb] at hz; cases hz
    refine ⟨by simp [h0], #[], fun w => by simp [h0], ?_⟩
    simp [h0]; exact .nil
  · obtain ⟨hl, zero, hz1, hz2⟩ := rowZ_ok hz m default
    refine ⟨hl, zero, fun w => ?_, hz2⟩
    have hb : Nat.beq (n * z) 0 = false := by rw [beq_eq]; exact decide_eq_false h0
    unfold rowZ at hz
    rw [hb] at hz
    obtain ⟨v, hv, hz⟩ := bind_some (show (zeroT P el).bind (rowV n z) = some l from hz)
    obtain ⟨i, u, hi, hz0, hov, hrun⟩ := run_zero hv
    simp [h0, hrun] at hz1 ⊢
    exact hz1
theorem new_ok {m : Mz} {h : Hp} {nx : Nat} {w : World} {fr : Fm} {a : Act} {o : Oper} {r : Rs} (hW : WR P m h nx w) (hF : FR m fr a.tmps sz) (hn : newOp o.op = true) (hr : opA o.op P fr h nx = some r) :
    ∃ (obj : Obj) (ao : AO), (∀ w2, (execOp a.eval o).run P w2 = .ok (.value (newV o.op w2.heap.size)) (w2.alloc obj)) ∧ r.h = h.set .dead nx ao ∧ r.nx = nx + 1 ∧
      ∀ (m' : Mz) (w' : World) (blk : Nat), Le m m' → m' nx = some ⟨blk, 0, 0⟩ → w'.heap[blk]? = some obj → OR P m' w' nx ao ∧ VR m' r.v (newV o.op blk) := by
  cases ho : o.op with
  | alloc t =>
    rw [ho] at hr
    obtain ⟨v, hv, rfl⟩ := map_some (show (zeroT P t).map (mkBox t h nx) = some r from hr)
    obtain ⟨i, u, hi, hz, hov, hrun⟩ := run_zero hv
    have hcl := (ofV_ok m 10 u v hov).cells
    exact ⟨.cells u.cells t, .cells (newBk v.cells v.cells.length t true), fun w2 => by simp [execOp, ho, Instr.alloc, hrun, newVar, newRow, newV], rfl, rfl, fun m' w' blk hle hm hp =>
      ⟨newBk_at hcl hle rfl u.cells (fun i x hx => by rw [← Array.getElem?_toList]; exact hx) t (by rw [hcl.length, Array.length_toList]) hm hp, .ptr 0 hm⟩⟩
  | buildSlice t n ps =>
    rw [ho] at hr
    have hr : oBuildSlice t n ps P fr h nx = some r := hr
    obtain ⟨el, hel, hr⟩ := bind_some hr
    obtain ⟨l, hl, hr⟩ := bind_some hr
    obtain ⟨z, hz, hr⟩ := bind_some hr
    obtain ⟨hle, hr⟩ := cond_some hr
    obtain ⟨cs, hcs, rfl⟩ := map_some hr
    obtain ⟨zc, hzc, hcs⟩ := bind_some hcs
    have hle : n * z ≤ 65536 := Nat.le_of_ble_eq_true hle
    obtain ⟨hzl, zero, hzrun, hzr⟩ := rowZ_all hzc m
    obtain ⟨h1, h2⟩ := evP_ok hW hF hl
    obtain ⟨out, h3, h4⟩ := fill_ok (m := m) (place := rowPl z) (place' := fun i => some (i * z, z)) (fun i p hp => by cases hp; rfl) l (ps.map fun (i, x) => (i, a.eval x)).toList zc _ cs (by simpa using h1) (fun k p hk => by simpa using h2 k p hk) hzr hcs
    have hol : cs.length = n * z := by
      have : ∀ (qs : List Pt) (xs ys : List AV), fillA (rowPl z) qs xs = some ys → ys.length = xs.length := by
        intro qs
        induction qs with
        | nil => intro xs ys hh; cases hh; rfl
        | cons q qs ih =>
          intro xs ys hh
          obtain ⟨c1, hh1, hh2⟩ := bind_some (show ((rowPl z q.i).bind (fill1 xs q.v)).bind (fillA (rowPl z) qs) = some ys from hh)
          obtain ⟨pl, hp, hh1⟩ := bind_some hh1
          obtain ⟨hc, hh1⟩ := cond_some hh1
          cases hh1
          obtain ⟨g1, g2⟩ := Bool.and_eq_true_iff.1 hc
          have g1 : q.v.cells.length = pl.n := Nat.eq_of_beq_eq_true g1
          have g2 : pl.o + pl.n ≤ xs.length := Nat.le_of_ble_eq_true g2
          rw [ih _ _ hh2, putCells_len _ _ _ (by omega)]
      rw [this _ _ _ hcs, hzl]
    have hos : out.size = n * z := by rw [← Array.length_toList, ← h4.length, hol]
    exact ⟨.cells out el, .cells (newBk cs (n * z) el true), fun w2 => by simp [execOp, ho, run_buildSlice (elemT_some hel) hz hle (hzrun w2) h3, newV], rfl, rfl, fun m' w' blk hle hm hp =>
      ⟨newBk_at h4 hle hol out (fun i x hx => by rw [← Array.getElem?_toList]; exact hx) el hos hm hp, by
        have := VR.slice (m := m') (b := nx) (z := ⟨blk, 0, 0⟩) 0 n n true hm
        simpa [mkRow, newV] using this⟩⟩
  | _ => rw [ho] at hn; cases hn
theorem owns_lives {m : Mz} {h : Hp} {j : Nat} (ho : Owns m h j) : Lives m h j := by
  obtain ⟨b, z, h1, h2, h3⟩ := ho
  exact ⟨b, z, h1, h2, fun e => by rw [e] at h3; exact h3⟩
theorem WR.grown {m : Mz} {h : Hp} {nx : Nat} {w : World} (hW : WR P m h nx w) (o : Obj) : WR P m h nx (w.alloc o) ∧ Evo m h w m h (w.alloc o) := by
  have hb : ∀ k, k < w.heap.size → (w.alloc o).heap[k]? = w.heap[k]? := fun k hk => by
    show (w.heap.push o)[k]? = _
    rw [Array.getElem?_push, if_neg (by omega)]
  exact ⟨⟨hW.gl, hW.fresh, fun b => (hW.rel b).mono (Le.refl m) fun z hz ho => hb z.blk (hW.lt ho hz), hW.ap⟩,
   Le.refl m, rfl, rfl, rfl, by show w.heap.size ≤ (w.heap.push o).size; simp, fun j hj _ => hb j hj, fun _ _ h => h, fun _ _ h => h⟩
/-- A block that lies there already is taken in. -/
theorem WR.graft {m : Mz} {h : Hp} {nx : Nat} {w : World} (hW : WR P m h nx w) (ao : AO) (z : Cz) (hno : ¬ Lives m h z.blk) (hr : OR P (upd m nx z) w nx ao) : WR P (upd m nx z) (h.set .dead nx ao) (nx + 1) w := by
  have hn := hW.fresh nx (Nat.le_refl _)
  have hle := upd_le z hn
  refine ⟨fun g hg => hle _ _ (hW.gl g hg), fun b hb => ?_, fun b => ?_, ?_⟩
  · rw [upd_ne m z (by omega)]; exact hW.fresh b (by omega)
  · rw [Tr.get_set]
    by_cases hbn : b = nx
    · rw [if_pos hbn]; subst hbn; exact hr
    · rw [if_neg hbn]
      exact (hW.rel b).mono hle fun _ _ _ => rfl
  · intro b x zb zx hx hmb hmx hlive
    rw [Tr.get_set] at hlive
    rw [Tr.get_set, Tr.get_set]
    by_cases hbn : b = nx
    · subst hbn
      have hxn : x ≠ b := hx
      rw [if_neg hxn] at hlive
      rw [upd_at] at hmb; cases hmb
      rw [upd_ne m _ hxn] at hmx
      exact Apart.symm_none fun e => hno ⟨x, zx, hmx, e, hlive⟩
    · rw [if_neg hbn]
      rw [upd_ne m z hbn] at hmb
      by_cases hxn : x = nx
      · subst hxn
        rw [upd_at] at hmx; cases hmx
        by_cases hd : h.get .dead b = .dead
        · rw [hd]; trivial
        · exact Apart.symm_none fun e => hno ⟨b, zb, hmb, e.symm, hd⟩
      · rw [if_neg hxn] at hlive ⊢
        rw [upd_ne m z hxn] at hmx
        exact hW.ap b x zb zx hx hmb hmx hlive
/-- A block that was laid ahead of its turn: the operation's number, the block. -/
def ErOk (P : Program) (ops : Array Oper) (B : Nat) (m : Mz) (h : Hp) (w : World) (a : Act) (p : Nat × Nat) : Prop :=
  ∃ o obj, ops[p.1]? = some o ∧ newOp o.op = true ∧ o.guard = none ∧ (∀ w2, (execOp a.eval o).run P w2 = .ok (.value (newV o.op w2.heap.size)) (w2.alloc obj)) ∧ w.heap[p.2]? = some obj ∧ B ≤ p.2 ∧ ¬ Lives m h p.2
theorem ErOk.step {ops : Array Oper} {B : Nat} {m m' : Mz} {h h' : Hp} {w w' : World} {a a' : Act} {p : Nat × Nat} (hp : ErOk P ops B m h w a p) (hE : Evo m h w m' h' w') (hs : ∀ o, ops[p.1]? = some o → execOp a'.eval o = execOp a.eval o) : ErOk P ops B m' h' w' a' p := by
  obtain ⟨o, obj, h1, h2, h3, h4, h5, h6, h7⟩ := hp
  have hlt := (Array.getElem?_eq_some_iff.1 h5).1
  exact ⟨o, obj, h1, h2, h3, by rw [hs o h1]; exact h4, by rw [hE.keep _ hlt fun ho => h7 (owns_lives ho)]; exact h5, h6, fun hl => h7 (hE.liv _ hlt hl)⟩
def putE (ops : Array Oper) : List (Nat × Nat) → Act → Act
  | [], a => a
  | p :: E, a => (putE ops E a).put ((ops[p.1]?).bind (·.dst)) (newV (((ops[p.1]?).map (·.op)).getD (.move (.tmp 0))) p.2)
def listE (listed : Array Bool) : List (Nat × Nat) → Array Bool
  | [] => listed
  | p :: E => (listE listed E).setIfInBounds p.1 true
theorem set_un {l : Array Bool} {i j : Nat} (h : (l.setIfInBounds i true).getD j true = false) : l.getD j true = false ∧ j ≠ i := by
  by_cases hij : i = j
  · subst hij
    exfalso
    rcases Nat.lt_or_ge i l.size with h' | h'
    · simp [h'] at h
    · simp [h'] at h
  · exact ⟨by rw [← getD_set_ne true hij]; exact h, fun e => hij e.symm⟩
theorem set_on {l : Array Bool} {i j : Nat} (h : (l.setIfInBounds i true).getD j false = true) : l.getD j false = true ∨ j = i := by
  by_cases hij : i = j
  · exact .inr hij.symm
  · exact .inl (by rw [← getD_set_ne false hij]; exact h)
theorem listE_un {listed : Array Bool} {j : Nat} : ∀ {E : List (Nat × Nat)}, (listE listed E).getD j true = false → listed.getD j true = false ∧ j ∉ E.map (·.1)
  | [], h => ⟨h, by simp⟩
  | p :: E, h => by
    obtain ⟨h1, h2⟩ := set_un (show ((listE listed E).setIfInBounds p.1 true).getD j true = false from h)
    obtain ⟨h3, h4⟩ := listE_un h1
    exact ⟨h3, by simp only [List.map_cons, List.mem_cons, not_or]; exact ⟨h2, h4⟩⟩
theorem listE_on {listed : Array Bool} {j : Nat} : ∀ {E : List (Nat × Nat)}, (listE listed E).getD j false = true → listed.getD j false = true ∨ j ∈ E.map (·.1)
  | [], h => .inl h
  | p :: E, h => by
    rcases set_on (show ((listE listed E).setIfInBounds p.1 true).getD j false = true from h) with h | h
    · rcases listE_on h with h | h
      · exact .inl h
      · exact .inr (by simp only [List.map_cons, List.mem_cons]; exact .inr h)
    · exact .inr (by simp only [List.map_cons, List.mem_cons]; exact .inl h)
theorem listE_comm {listed : Array Bool} {i : Nat} : ∀ {E : List (Nat × Nat)}, i ∉ E.map (·.1) → listE (listed.setIfInBounds i true) E = (listE listed E).setIfInBounds i true
  | [], _ => rfl
  | p :: E, h => by
    simp only [List.map_cons, List.mem_cons, not_or] at h
    show (listE (listed.setIfInBounds i true) E).setIfInBounds p.1 true = ((listE listed E).setIfInBounds p.1 true).setIfInBounds i true
    rw [listE_comm h.2, Array.setIfInBounds_comm _ _ h.1]
theorem ready_listE {ops : Array Oper} {listed : Array Bool} {j : Nat} (hj : j ∈ Region.ready .any ops listed) : ∀ {E : List (Nat × Nat)}, j ∉ E.map (·.1) → j ∈ Region.ready .any ops (listE listed E)
  | [], _ => hj
  | p :: E, h => by
    simp only [List.map_cons, List.mem_cons, not_or] at h
    exact ready_mono (ready_listE hj h.2) h.1
/-- Free of all that does not wait for it. -/
def FreeS (ops : Array Oper) (listed : Array Bool) (i : Nat) : Prop := ∀ o, ops[i]? = some o → ∀ j oj, ops[j]? = some oj → j ≠ i → listed.getD j true = false → (∀ e ∈ oj.after, Region.binds .any e = true → e.on ≠ i) → o.apart ops oj = true
theorem FreeS.set {ops : Array Oper} {listed : Array Bool} {i k : Nat} (h : FreeS ops listed i) : FreeS ops (listed.setIfInBounds k true) i := fun o ho j oj hj hne hun hno => h o ho j oj hj hne (set_un hun).1 hno
theorem waitsOn_iff {o : Oper} {i : Nat} : waitsOn o i = true ↔ ∃ e ∈ o.after, Region.binds .any e = true ∧ e.on = i := by
  unfold waitsOn
  rw [Array.any_eq_true']
  constructor
  · rintro ⟨e, he, hb⟩
    obtain ⟨h1, h2⟩ := Bool.and_eq_true_iff.1 hb
    exact ⟨e, he, h1, Nat.eq_of_beq_eq_true h2⟩
  · rintro ⟨e, he, h1, h2⟩
    exact ⟨e, he, Bool.and_eq_true_iff.2 ⟨h1, by rw [h2]; exact Nat.beq_refl i⟩⟩
theorem sepOk_spec {ops : Array Oper} {listed : Array Bool} {ps cs : List Nat} (h : sepOk ops listed ps cs = true) {j : Nat} {oj : Oper} (hj : ops[j]? = some oj) (hun : listed.getD j true = false) {e c : Nat} (he : e ∈ ps) (hc : c ∈ cs) (hw : waitsOn oj e = true) : waitsOn oj c = true := by
  have := List.all_eq_true.1 h j (List.mem_range.2 (Array.getElem?_eq_some_iff.1 hj).1)
  simp only [hun, Bool.false_or, hj, Option.map_some, Option.getD_some] at this
  have := List.all_eq_true.1 this e he
  simp only [hw, Bool.not_true, Bool.false_or] at this
  exact List.all_eq_true.1 this c hc
/-- What is ready where some blocks were laid ahead of their turn. -/
theorem ready_back {ops : Array Oper} {listed : Array Bool} {E : List (Nat × Nat)} {ps cs : List Nat} (hsep : sepOk ops listed ps cs = true) (hE : ∀ i ∈ E.map (·.1), i ∈ ps) {c : Nat} (hc : c ∈ cs) (hcu : (listE listed E).getD c false = false) {j : Nat} (hj : j ∈ Region.ready .any ops (listE listed E)) : j ∈ Region.ready .any ops listed ∧ j ∉ E.map (·.1) := by
  obtain ⟨h0, o, ho, hall⟩ := mem_ready.1 hj
  obtain ⟨h1, h2⟩ := listE_un h0
  refine ⟨mem_ready.2 ⟨h1, o, ho, fun e he hb => ?_⟩, h2⟩
  rcases listE_on (hall e he hb) with h | h
  · exact h
  · exfalso
    have := sepOk_spec hsep ho h1 (hE _ h) hc (waitsOn_iff.2 ⟨e, he, hb, rfl⟩)
    obtain ⟨e', he', hb', hon⟩ := waitsOn_iff.1 this
    have := hall e' he' hb'
    rw [hon, hcu] at this; cases this
/-! ### An operation behind blocks that were laid ahead of their turn -/
section
variable {F : Fence} {n : Nat} {ops : Array Oper} {Q : Exit → Act → World → Prop}
theorem wpOpIn_shape {j : Nat} {oj : Oper} (hF : ∀ f, F.fn f) (hnd : ∀ c, oj.op ≠ .defer c) (hj : ops[j]? = some oj) (hQ : ∀ c a w, ¬ Q (.panic c) a w) {K : Act → World → Prop} {a : Act} {w : World} (h : wpOpIn F n P ops Q j K a w) :
    wpOpIn F n P ops Q j (fun a' w' => (∃ u D, a' = ({ a with defers := D } : Act).put oj.dst u) ∧ K a' w') a w := by
  unfold wpOpIn at *
  simp only [hj] at *
  split
  · rename_i hw
    simp only [hw, if_true] at h
    unfold Oper.wpIn at *
    refine ⟨fun f _ => hF f, ?_⟩
    have h := h.2
    rw [Oper.semAt_eq _ _ _ hnd] at h
    rw [Oper.semAt_eq _ _ _ hnd]
    generalize (execOp a.eval oj).run P w = r at *
    cases r with
    | ok x w' =>
      cases x <;> simp only [Oper.uponIn] at h ⊢
      case value u => exact ⟨⟨u, a.defers, rfl⟩, h⟩
      case skip => exact ⟨⟨undef, a.defers, rfl⟩, h⟩
      case defer d => exact ⟨⟨undef, d :: a.defers, rfl⟩, h⟩
      case enter f args =>
        refine ⟨h.1, CallsIn.mono h.2 fun e w'' he => ?_⟩
        cases e with
        | returned u => exact ⟨⟨u, a.defers, rfl⟩, he⟩
        | panicked c => exact absurd he (hQ _ _ _)
        | outgrown => exact he
      case row row args => exact ⟨h.1, RowsIn.mono h.2 fun u w'' he => ⟨⟨u, a.defers, rfl⟩, he⟩⟩
      case round l f tmps assign body =>
        refine ⟨h.1, RoundIn.mono h.2 fun e w'' he => ?_⟩
        cases e with
        | returned u => exact ⟨⟨u, a.defers, rfl⟩, he⟩
        | panicked c => exact absurd he (hQ _ _ _)
        | outgrown => exact he
    | halt x w' =>
      cases x <;> simp only [Oper.uponIn] at h ⊢
      case panic u => exact absurd h (hQ _ _ _)
  · rename_i hw
    simp only [hw] at h
    exact ⟨fun f _ => hF f, ⟨undef, a.defers, rfl⟩, h.2⟩
theorem wpOpIn_putR {j : Nat} {oi oj : Oper} {dst : Option Tmp} {v : Value} (hd : dst = oi.dst) (hF : ∀ f, F.fn f) (hnd : ∀ c, oj.op ≠ .defer c) (hj : ops[j]? = some oj) (hap : oi.apart ops oj = true)
    (hsj : ∀ cs b, oj.op ≠ .select cs b) (hQ : ∀ c a w, ¬ Q (.panic c) a w) {K : Act → World → Prop} {a : Act} {w : World}
    (h : wpOpIn F n P ops Q j K a w) : wpOpIn F n P ops Q j (fun a' w' => ∃ a1, a' = a1.put dst v ∧ K a1 w') (a.put dst v) w := by
  subst hd
  obtain ⟨h1, h2, h3⟩ := Oper.apart_spec hap
  unfold wpOpIn at *
  simp only [hj] at *
  rw [wanted_put oj a oi.dst v h1]
  split
  · rename_i hw
    simp only [hw, if_true] at h
    unfold Oper.wpIn at *
    refine ⟨fun f _ => hF f, ?_⟩
    have h := h.2
    rw [Oper.semAt_eq _ _ _ hnd] at h
    rw [Oper.semAt_eq _ _ _ hnd, execOp_put oj hsj a oi.dst v h1]
    generalize (execOp a.eval oj).run P w = r at *
    cases r with
    | ok x w' =>
      cases x <;> simp only [Oper.uponIn] at h ⊢
      case value u => exact ⟨_, Act.put_comm a v u h2, h⟩
      case skip => exact ⟨_, Act.put_comm a v undef h2, h⟩
      case defer d =>
        refine ⟨_, ?_, h⟩
        rw [← Act.put_comm _ v undef h2]
        generalize oi.dst = x
        generalize oj.dst = y
        cases x <;> cases y <;> rfl
      case enter f args =>
        refine ⟨h.1, CallsIn.mono h.2 fun e w'' he => ?_⟩
        cases e with
        | returned u => exact ⟨_, Act.put_comm a v u h2, he⟩
        | panicked c => exact absurd he (hQ _ _ _)
        | outgrown => exact he
      case row row args => exact ⟨h.1, RowsIn.mono h.2 fun u w'' he => ⟨_, Act.put_comm a v u h2, he⟩⟩
      case round l f tmps assign body =>
        refine ⟨h.1, RoundIn.mono h.2 fun e w'' he => ?_⟩
        cases e with
        | returned u => exact ⟨_, Act.put_comm a v u h2, he⟩
        | panicked c => exact absurd he (hQ _ _ _)
        | outgrown => exact he
    | halt x w' =>
      cases x <;> simp only [Oper.uponIn] at h ⊢
      case panic u => exact absurd h (hQ _ _ _)
  · rename_i hw
    simp only [hw] at h
    exact ⟨fun f _ => hF f, _, Act.put_comm a v undef h2, h.2⟩
theorem wpOpIn_putE {j : Nat} {oj : Oper} (hF : ∀ f, F.fn f) (hnd : ∀ c, oj.op ≠ .defer c) (hj : ops[j]? = some oj) (hsj : ∀ cs b, oj.op ≠ .select cs b) (hQ : ∀ c a w, ¬ Q (.panic c) a w) : ∀ (E : List (Nat × Nat)), (∀ p ∈ E, ∃ o, ops[p.1]? = some o ∧ o.apart ops oj = true) →
    ∀ {K : Act → World → Prop} {a : Act} {w : World}, wpOpIn F n P ops Q j K a w → wpOpIn F n P ops Q j (fun a' w' => ∃ a1, a' = putE ops E a1 ∧ K a1 w') (putE ops E a) w
  | [], _, K, a, w, h => wpOpIn_mono (fun a' w' hk => ⟨a', rfl, hk⟩) h
  | p :: E, hE, K, a, w, h => by
    obtain ⟨o, ho, hap⟩ := hE p List.mem_cons_self
    have h1 := wpOpIn_putE hF hnd hj hsj hQ E (fun q hq => hE q (List.mem_cons_of_mem _ hq)) h
    have h2 := wpOpIn_putR (oi := o) (dst := (ops[p.1]?).bind (·.dst)) (v := newV (((ops[p.1]?).map (·.op)).getD (.move (.tmp 0))) p.2) (by rw [ho]; rfl) hF hnd hj hap hsj hQ h1
    refine wpOpIn_mono (fun a' w' hk => ?_) h2
    obtain ⟨a1, rfl, a2, rfl, hk⟩ := hk
    exact ⟨a2, rfl, hk⟩
theorem putE_exec {oj : Oper} (hsj : ∀ cs b, oj.op ≠ .select cs b) (a : Act) : ∀ (E : List (Nat × Nat)), (∀ p ∈ E, ∃ o, ops[p.1]? = some o ∧ o.apart ops oj = true) → execOp (putE ops E a).eval oj = execOp a.eval oj
  | [], _ => rfl
  | p :: E, hE => by
    obtain ⟨o, ho, hap⟩ := hE p List.mem_cons_self
    show execOp ((putE ops E a).put _ _).eval oj = _
    rw [execOp_put oj hsj _ _ _ (by rw [ho]; exact (Oper.apart_spec hap).1)]
    exact putE_exec hsj a E fun q hq => hE q (List.mem_cons_of_mem _ hq)
theorem putE_wanted {oj : Oper} (a : Act) : ∀ (E : List (Nat × Nat)), (∀ p ∈ E, ∃ o, ops[p.1]? = some o ∧ o.apart ops oj = true) → Region.wanted oj (yielded ops (putE ops E a).tmps) = Region.wanted oj (yielded ops a.tmps)
  | [], _ => rfl
  | p :: E, hE => by
    obtain ⟨o, ho, hap⟩ := hE p List.mem_cons_self
    show Region.wanted oj (yielded ops ((putE ops E a).put _ _).tmps) = _
    rw [wanted_put oj _ _ _ (by rw [ho]; exact (Oper.apart_spec hap).1)]
    exact putE_wanted a E fun q hq => hE q (List.mem_cons_of_mem _ hq)
theorem putE_put {oj : Oper} (a : Act) (u : Value) : ∀ (E : List (Nat × Nat)), (∀ p ∈ E, ∃ o, ops[p.1]? = some o ∧ o.apart ops oj = true) → (putE ops E a).put oj.dst u = putE ops E (a.put oj.dst u)
  | [], _ => rfl
  | p :: E, hE => by
    obtain ⟨o, ho, hap⟩ := hE p List.mem_cons_self
    show ((putE ops E a).put _ _).put oj.dst u = (putE ops E (a.put oj.dst u)).put _ _
    rw [← putE_put a u E fun q hq => hE q (List.mem_cons_of_mem _ hq)]
    exact Act.put_comm _ _ _ (by rw [ho]; exact (Oper.apart_spec hap).2.1)
end
theorem cond_true {b c : Bool} (h : (bif b then c else false) = true) : b = true ∧ c = true := by cases b <;> first | exact ⟨rfl, h⟩ | cases h
theorem nodup_fst {E : List (Nat × Nat)} (hn : (E.map (·.1)).Nodup) {p q : Nat × Nat} (hp : p ∈ E) (hq : q ∈ E) (h : p.1 = q.1) : p = q := by
  induction E with
  | nil => cases hp
  | cons x E ih =>
    rw [List.map_cons, List.nodup_cons] at hn
    rcases List.mem_cons.1 hp with h1 | h1 <;> rcases List.mem_cons.1 hq with h2 | h2
    · rw [h1, h2]
    · exact absurd (List.mem_map.2 ⟨q, h2, by rw [← h, ← h1]⟩) hn.1
    · exact absurd (List.mem_map.2 ⟨p, h1, by rw [← h2]; exact h⟩) hn.1
    · exact ih hn.2 h1 h2
theorem nodup_snd {E : List (Nat × Nat)} (hn : (E.map (·.2)).Nodup) {p q : Nat × Nat} (hp : p ∈ E) (hq : q ∈ E) (h : p.2 = q.2) : p = q := by
  induction E with
  | nil => cases hp
  | cons x E ih =>
    rw [List.map_cons, List.nodup_cons] at hn
    rcases List.mem_cons.1 hp with h1 | h1 <;> rcases List.mem_cons.1 hq with h2 | h2
    · rw [h1, h2]
    · exact absurd (List.mem_map.2 ⟨q, h2, by rw [← h, ← h1]⟩) hn.1
    · exact absurd (List.mem_map.2 ⟨p, h1, by rw [← h2]; exact h⟩) hn.1
    · exact ih hn.2 h1 h2
theorem cell_alloc {w : World} {A : Addr} {u : Value} (o : Obj) (h : w.cell? A = some u) : (w.alloc o).cell? A = some u := by
  have hlt := block_lt_of_cell h
  rw [World.cell?_of_block (show (w.alloc o).heap[A.block]? = w.heap[A.block]? by
    show (w.heap.push o)[A.block]? = _
    rw [Array.getElem?_push, if_neg (by omega)])]
  exact h
theorem keeps_new {ops : Array Oper} {i : Nat} {m : Mz} {hd : Held} {S : Cs} {w : World} (obj : Obj) (hC : ∀ c ∈ S, CR m hd c) : Keeps ops S i w (w.alloc obj) := fun c hc => .inr fun hCw => by
  obtain ⟨ci, cC⟩ := c
  have := hC _ hc
  cases this with
  | any h => exact h _
  | cells b q z vs us h1 h2 h3 h4 h5 => exact h4 _ fun j u hj => cell_alloc obj (h5 _ hCw j u hj)
theorem planGo_next {ops : Array Oper} {gas : Nat} {listed : Array Bool} {p : Plan} (h : planGo P ops (gas + 1) listed = some p) : Region.ready .any ops listed = [] ∨ ∃ i r, i ∈ Region.ready .any ops listed ∧ planGo P ops gas (listed.setIfInBounds i true) = some r := by
  unfold planGo at h
  split at h
  · rename_i hr; exact .inl hr
  · split at h
    · rename_i i hf
      obtain ⟨o, _, h⟩ := bind_some h
      obtain ⟨r, hr, _⟩ := map_some h
      exact .inr ⟨i, r, List.mem_of_find?_eq_some hf, hr⟩
    · split at h
      · rename_i i hf
        obtain ⟨_, h⟩ := cond_some h
        obtain ⟨o, _, h⟩ := bind_some h
        obtain ⟨r, hr, _⟩ := map_some h
        exact .inr ⟨i, r, (List.mem_filter.1 (by rw [hf]; simp)).1, hr⟩
      · split at h
        · cases h
        · rename_i i t hrs
          obtain ⟨_, h⟩ := cond_some h
          obtain ⟨o, _, h⟩ := bind_some h
          obtain ⟨r, hr, _⟩ := map_some h
          exact .inr ⟨i, r, by rw [hrs]; simp, hr⟩
      · cases h
theorem plan_len {ops : Array Oper} : ∀ (gas : Nat) {listed : Array Bool} {p : Plan}, planGo P ops gas listed = some p → ∀ E : List Nat, E.Nodup → (∀ i ∈ E, i ∈ Region.ready .any ops listed) → E.length ≤ gas
  | 0, listed, p, h, E, _, hE => by
    unfold planGo at h
    split at h
    · rename_i hr
      cases E with
      | nil => simp
      | cons i E => have := hE i (by simp); rw [hr] at this; cases this
    · cases h
  | gas + 1, listed, p, h, E, hn, hE => by
    rcases planGo_next h with hr | ⟨i, r, hi, hr⟩
    · cases E with
      | nil => simp
      | cons i E => have := hE i (by simp); rw [hr] at this; cases this
    · have := plan_len gas hr (E.erase i) (hn.erase i) fun j hj => by
        obtain ⟨h1, h2⟩ := (hn.mem_erase_iff).1 hj
        exact ready_mono (hE j h2) h1
      rw [List.length_erase] at this
      split at this <;> omega
theorem free_mono {ops : Array Oper} {listed : Array Bool} {i : Nat} (k : Nat) (h : Region.free .any ops listed i = true) : Region.free .any ops (listed.setIfInBounds k true) i = true := by
  unfold Region.free at h ⊢
  split at h
  · cases h
  · refine List.all_eq_true.2 fun j hj => ?_
    have := List.all_eq_true.1 h j hj
    by_cases hl : (listed.setIfInBounds k true).getD j true = true
    · simp [hl]
    · have hl := (set_un (by simpa using hl)).1
      simp only [hl, Bool.or_false] at this
      simp only [Bool.or_eq_true] at this ⊢
      rcases this with h | h
      · exact .inl (.inl h)
      · exact .inr h
theorem alOk_some {ops : Array Oper} {listed : Array Bool} {i : Nat} (h : alOk ops listed i = true) : ∃ o, ops[i]? = some o ∧ newOp o.op = true ∧ Region.free .any ops listed i = true ∧ o.guard = none := by
  obtain ⟨o, ho, h⟩ := map_some (getD_true h)
  simp only [Bool.and_eq_true, Option.isNone_iff_eq_none] at h
  exact ⟨o, ho, h.1.1, h.1.2, h.2⟩
theorem alOk_mono {ops : Array Oper} {listed : Array Bool} {i : Nat} (k : Nat) (h : alOk ops listed i = true) : alOk ops (listed.setIfInBounds k true) i = true := by
  obtain ⟨o, ho, h1, h2, h3⟩ := alOk_some h
  unfold alOk
  rw [ho]
  simp [h1, free_mono k h2, h3]
theorem newsOk_some {ops : Array Oper} {σ : St} {L : List Nat} (h : newsOk P σ (opersOf ops L) = true) {j : Nat} {o : Oper} (hj : j ∈ L) (ho : ops[j]? = some o) : ∃ r, opA o.op P σ.fr σ.h σ.nx = some r := by
  have := List.all_eq_true.1 h o (List.mem_filterMap.2 ⟨j, hj, ho⟩)
  unfold isSomeR at this
  split at this
  · exact ⟨_, by assumption⟩
  · cases this
structure ErAll (P : Program) (ops : Array Oper) (B : Nat) (m : Mz) (h : Hp) (w : World) (a : Act) (listed : Array Bool) (E : List (Nat × Nat)) : Prop where
  ok : ∀ p ∈ E, ErOk P ops B m h w a p
  nd : (E.map (·.1)).Nodup
  nb : (E.map (·.2)).Nodup
  rd : ∀ i ∈ E.map (·.1), i ∈ Region.ready .any ops listed
  al : ∀ i ∈ E.map (·.1), alOk ops listed i = true
theorem ErAll.step {ops : Array Oper} {B : Nat} {m m' : Mz} {h h' : Hp} {w w' : World} {a a' : Act} {listed : Array Bool} {E : List (Nat × Nat)} (hA : ErAll P ops B m h w a listed E) (hE : Evo m h w m' h' w') (hs : ∀ p ∈ E, ∀ o, ops[p.1]? = some o → execOp a'.eval o = execOp a.eval o) : ErAll P ops B m' h' w' a' listed E :=
  ⟨fun p hp => (hA.ok p hp).step hE (hs p hp), hA.nd, hA.nb, hA.rd, hA.al⟩
theorem ErAll.list {ops : Array Oper} {B : Nat} {m : Mz} {h : Hp} {w : World} {a : Act} {listed : Array Bool} {E : List (Nat × Nat)} (hA : ErAll P ops B m h w a listed E) {i : Nat} (hi : i ∉ E.map (·.1)) : ErAll P ops B m h w a (listed.setIfInBounds i true) E :=
  ⟨hA.ok, hA.nd, hA.nb, fun j hj => ready_mono (hA.rd j hj) fun e => hi (e ▸ hj), fun j hj => alOk_mono i (hA.al j hj)⟩
theorem un_of_true {l : Array Bool} {c : Nat} (h : l.getD c true = false) : l.getD c false = false := by
  rcases Nat.lt_or_ge c l.size with h' | h'
  · simp [h'] at h ⊢; exact h
  · simp [h'] at h
theorem ErAll.apart {ops : Array Oper} {B : Nat} {m : Mz} {h : Hp} {w : World} {a : Act} {listed : Array Bool} {E : List (Nat × Nat)} (hA : ErAll P ops B m h w a listed E) {j : Nat} {oj : Oper} (hj : j ∈ Region.ready .any ops listed) (hoj : ops[j]? = some oj) (hjE : j ∉ E.map (·.1)) : ∀ p ∈ E, ∃ o, ops[p.1]? = some o ∧ o.apart ops oj = true := fun p hp => by
  have hm : p.1 ∈ E.map (·.1) := List.mem_map.2 ⟨p, hp, rfl⟩
  obtain ⟨o, ho, _, hf, _⟩ := alOk_some (hA.al _ hm)
  obtain ⟨h0, oj', hoj', hall⟩ := mem_ready.1 hj
  rw [hoj] at hoj'; cases hoj'
  refine ⟨o, ho, Region.free_spec ho hf j oj hoj (fun e => hjE (e ▸ hm)) h0 fun e he hb heq => ?_⟩
  have h1 := hall e he hb
  rw [heq, un_of_true (mem_ready.1 (hA.rd _ hm)).1] at h1
  cases h1
/-- One of the early blocks to the front. -/
theorem early_pull {ops : Array Oper} {listed : Array Bool} {a : Act} (q : Nat × Nat) : ∀ (E : List (Nat × Nat)), q ∈ E → (E.map (·.1)).Nodup → (∀ p ∈ E, p.1 ≠ q.1 → ∀ d, ((ops[q.1]?).bind (·.dst)) = some d → ((ops[p.1]?).bind (·.dst)) ≠ some d) →
    listE listed E = (listE listed (E.erase q)).setIfInBounds q.1 true ∧ putE ops E a = (putE ops (E.erase q) a).put ((ops[q.1]?).bind (·.dst)) (newV (((ops[q.1]?).map (·.op)).getD (.move (.tmp 0))) q.2)
  | [], h, _, _ => by cases h
  | p :: E, h, hn, hd => by
    by_cases hpq : p = q
    · subst hpq
      rw [List.erase_cons_head]
      exact ⟨rfl, rfl⟩
    · have hq : q ∈ E := by
        rcases List.mem_cons.1 h with h | h
        · exact absurd h.symm hpq
        · exact h
      have hne : p.1 ≠ q.1 := fun e => by
        rw [List.map_cons, List.nodup_cons] at hn
        exact hn.1 (e ▸ List.mem_map.2 ⟨q, hq, rfl⟩)
      rw [List.map_cons, List.nodup_cons] at hn
      obtain ⟨h1, h2⟩ := early_pull (listed := listed) (a := a) q E hq hn.2 fun p' hp' => hd p' (List.mem_cons_of_mem _ hp')
      rw [List.erase_cons_tail (by simpa using hpq)]
      refine ⟨?_, ?_⟩
      · show (listE listed E).setIfInBounds p.1 true = ((listE listed (E.erase q)).setIfInBounds p.1 true).setIfInBounds q.1 true
        rw [h1, Array.setIfInBounds_comm _ _ (Ne.symm hne)]
      · show (putE ops E a).put _ _ = ((putE ops (E.erase q) a).put _ _).put _ _
        rw [h2]
        exact Act.put_comm _ _ _ (hd p List.mem_cons_self hne)
theorem alloc_inj {w : World} {o o' : Obj} (h : w.alloc o = w.alloc o') : o = o' := by
  have h1 := heap_alloc_new w o
  rw [h, heap_alloc_new w o'] at h1
  exact (Option.some.inj h1).symm
theorem drawK_ok (hN : NoNum P) (hp : PrimOk P prim) (hS : SelfOk P self) {ops : Array Oper} (hnd : ∀ (j : Nat) (o : Oper) c, ops[j]? = some o → o.op ≠ .defer c) (hsel : ∀ (j : Nat) (o : Oper) cs b, ops[j]? = some o → o.op ≠ .select cs b)
    {rd : Option Nat} {F : Fence} {n : Nat} {Q : Exit → Act → World → Prop} {k : Kx} {m0 : Mz} {h0 : Hp} {w0 : World} (hU : Upon P m0 sz h0 w0 k Q) :
    ∀ (T gas fuel : Nat) (listed : Array Bool) (p : Plan) (E : List (Nat × Nat)), gas + fuel = T → gas = fuel + E.length → planGo P ops gas listed = some p → ∀ (σ : St) (m : Mz) (w : World) (a : Act) (hd : Held) (S : Cs), drawK P prim self ops sz p k hd σ = true → Rel P m sz σ w a → RdR m rd F →
      Evo m0 h0 w0 m σ.h w → (∀ c ∈ S, CR m hd c) → ErAll P ops w0.heap.size m σ.h w a listed E → wpAnyC F n P ops (cut Q) S fuel (listE listed E) (putE ops E a) w := by
  intro T
  induction T using Nat.strongRecOn with
  | _ T IH =>
  intro gas fuel listed p E hT hg hpl σ m w a hd S hk hR hF hE0 hC hA
  cases gas with
  | zero =>
    have hf : fuel = 0 := by omega
    have hEn : E = [] := List.length_eq_zero_iff.1 (by omega)
    subst hf; subst hEn
    unfold planGo at hpl
    split at hpl
    · rename_i hr
      cases hpl
      exact ⟨hr, hU .nm σ m w a hk hR hE0⟩
    · cases hpl
  | succ gas =>
  -- how many there are to come
  have hfuel : ∀ i, i ∈ Region.ready .any ops listed → i ∉ E.map (·.1) → ∃ f, fuel = f + 1 := fun i hi hiE => by
    have := plan_len (gas + 1) hpl (i :: E.map (·.1)) (List.nodup_cons.2 ⟨hiE, hA.nd⟩) fun j hj => by
      rcases List.mem_cons.1 hj with rfl | hj
      · exact hi
      · exact hA.rd j hj
    rw [List.length_cons, List.length_map] at this
    exact ⟨fuel - 1, by omega⟩
  -- a block laid ahead of its turn
  have early : ∀ j f, fuel = f + 1 → j ∈ Region.ready .any ops listed → j ∉ E.map (·.1) → alOk ops listed j = true → (∀ o, ops[j]? = some o → ∃ r, opA o.op P σ.fr σ.h σ.nx = some r) →
      wpOpIn F n P ops (cut Q) j (fun a' w' => Keeps ops S j w w' ∧ wpAnyC F n P ops (cut Q) S f ((listE listed E).setIfInBounds j true) a' w') (putE ops E a) w := fun j f hf hj hjE hal hnews => by
    obtain ⟨o, ho, hno, hfr, hgd⟩ := alOk_some hal
    obtain ⟨r, hr⟩ := hnews o ho
    obtain ⟨obj, ao, hrun, _⟩ := new_ok hR.wr hR.fr hno hr
    have hap := hA.apart hj ho hjE
    have hw : Region.wanted o (yielded ops (putE ops E a).tmps) = true := by simp [Region.wanted, hgd]
    have hgr := hR.wr.grown obj
    have hnew := IH (gas + 1 + f) (by omega) (gas + 1) f listed p ((j, w.heap.size) :: E) rfl (by simp only [List.length_cons]; omega) hpl σ m (w.alloc obj) a hd S hk ⟨hgr.1, hR.fr, hR.mks⟩ hF (hE0.trans hgr.2) hC
      ⟨fun p hp => by
        rcases List.mem_cons.1 hp with rfl | hp
        · exact ⟨o, obj, ho, hno, hgd, hrun, heap_alloc_new w obj, hE0.size, fun ⟨b, z, h1, h2, h3⟩ => by have := hR.wr.lt h3 h1; simp only at h2; omega⟩
        · exact (hA.ok p hp).step hgr.2 fun _ _ => rfl,
       by simp only [List.map_cons]; exact List.nodup_cons.2 ⟨hjE, hA.nd⟩,
       by
        simp only [List.map_cons]
        refine List.nodup_cons.2 ⟨fun hm => ?_, hA.nb⟩
        obtain ⟨q, hq, he⟩ := List.mem_map.1 hm
        obtain ⟨_, _, _, _, _, _, h5, _⟩ := hA.ok q hq
        have := (Array.getElem?_eq_some_iff.1 h5).1
        omega,
       fun i hi => by
        simp only [List.map_cons] at hi
        rcases List.mem_cons.1 hi with rfl | hi
        · exact hj
        · exact hA.rd i hi,
       fun i hi => by
        simp only [List.map_cons] at hi
        rcases List.mem_cons.1 hi with rfl | hi
        · exact hal
        · exact hA.al i hi⟩
    have e : putE ops ((j, w.heap.size) :: E) a = (putE ops E a).put o.dst (newV o.op w.heap.size) := by
      show (putE ops E a).put ((ops[j]?).bind _) (newV (((ops[j]?).map _).getD _) _) = _
      rw [ho]; rfl
    rw [e] at hnew
    unfold wpOpIn
    simp only [ho, hw, if_true, Oper.wpIn, Oper.semAt_eq _ _ _ (hnd j o · ho), putE_exec (hsel j o · · ho) a E hap, hrun w, Oper.uponIn]
    exact ⟨fun f _ => hF.fn f, keeps_new obj hC, hnew⟩
  have hpl0 := hpl
  unfold planGo at hpl
  split at hpl
  · rename_i hr
    cases hpl
    have hEn : E = [] := by
      cases E with
      | nil => rfl
      | cons p E => have := hA.rd p.1 (by simp); rw [hr] at this; cases this
    subst hEn
    obtain rfl : fuel = gas + 1 := by simpa using hg.symm
    refine ⟨fun _ => hU .nm σ m w a hk hR hE0, fun i hi => ?_⟩
    rw [show listE listed [] = listed from rfl, hr] at hi; cases hi
  · rename_i hne
    split at hpl
    · rename_i i hfind
      obtain ⟨o, hi, hpl⟩ := bind_some hpl
      obtain ⟨r, hpr, rfl⟩ := map_some hpl
      have hmem := List.mem_of_find?_eq_some hfind
      have hfl := List.find?_some hfind
      unfold flOk at hfl
      rw [hi] at hfl
      obtain ⟨hfo, hfree⟩ := Bool.and_eq_true_iff.1 (show (floatO P o.op && Region.free .any ops listed i) = true from hfl)
      have hiE : i ∉ E.map (·.1) := fun hm => by
        obtain ⟨o', ho', hn', _⟩ := alOk_some (hA.al i hm)
        rw [hi] at ho'; cases ho'
        cases hop : o.op <;> rw [hop] at hn' hfo <;> first | (cases hn'; done) | cases hfo
      obtain ⟨f, rfl⟩ := hfuel i hmem hiE
      have hap := hA.apart hmem hi hiE
      have hk : flK P ops i o sz hd σ (drawK P prim self ops sz r k) = true := hk
      unfold flK at hk
      have first : ∀ (C : World → Prop) (v : Value), YieldsC P ops C o v a → C w → wpAnyC F n P ops (cut Q) ((i, C) :: S) f (listE (listed.setIfInBounds i true) E) (putE ops E (a.put o.dst v)) w → wpAnyC F n P ops (cut Q) S (f + 1) (listE listed E) (putE ops E a) w := fun C v hy hCw H => by
        refine wpAnyC_first (fun f => hF.fn f) hnd hi hsel (fun _ _ _ h => h) f _ _ w (fun j oj hj hji hun hno => Region.free_spec hi hfree j oj hj hji (listE_un hun).1 hno) (ready_listE hmem hiE) (hy.of_same (putE_exec (hsel i o · · hi) a E hap) (putE_wanted a E hap)) hCw ?_
        rw [← listE_comm hiE, putE_put a v E hap]; exact H
      have hsame : ∀ v, ∀ p ∈ E, ∀ o', ops[p.1]? = some o' → execOp (a.put o.dst v).eval o' = execOp a.eval o' := fun v p hp o' ho' => by
        obtain ⟨o2, ho2, hap2⟩ := hap p hp
        rw [ho'] at ho2; cases ho2
        exact execOp_put o' (hsel p.1 o' · · ho') a o.dst v (Oper.apart_spec hap2).2.2
      cases hw : wantA ops o σ.fr with
      | false =>
        rw [hw] at hk
        obtain ⟨σ', hpt, hk⟩ := contO_some (show contO (drawK P prim self ops sz r k hd) un (putA σ sz o.dst un) = true from hk)
        obtain ⟨h1, h2, h3, h4, h5⟩ := putA_ok (m := m) (a := a) hpt hR.fr (un_undef m)
        refine first (fun _ => True) undef (.inr ⟨by rw [want_ok hR.fr]; exact hw, rfl⟩) trivial ?_
        refine IH (gas + f) (by omega) gas f _ r E rfl (by omega) hpr σ' m w _ hd _ hk ⟨by rw [h2, h3]; exact hR.wr, h1, by rw [h4, h5]; exact hR.mks⟩ hF (by rw [h2]; exact hE0) (fun c hc => ?_) (by rw [h2]; exact (hA.step (Evo.refl m _ w) (hsame _)).list hiE)
        rcases List.mem_cons.1 hc with rfl | hc
        · exact .any fun _ => trivial
        · exact hC c hc
      | true =>
        rw [hw] at hk
        obtain ⟨hdry, hk⟩ : dryO σ.fr o.op = true ∧ ((opA o.op P σ.fr σ.h σ.nx).map (flGo P i o sz hd σ (drawK P prim self ops sz r k))).getD false = true := by
          cases hb : dryO σ.fr o.op with
          | true => rw [hb] at hk; exact ⟨rfl, hk⟩
          | false => rw [hb] at hk; cases hk
        obtain ⟨x, hx, hk⟩ := map_some (getD_true hk)
        have hk : contO (drawK P prim self ops sz r k (heldO P i o σ.fr x.v hd)) x.v (putA σ sz o.dst x.v) = true := hk
        obtain ⟨σ', hpt, hk⟩ := contO_some hk
        obtain ⟨s1, s2⟩ := float_same hfo hx
        have hwant : Region.wanted o (yielded ops a.tmps) = true := by rw [want_ok hR.fr]; exact hw
        cases hld : isLoad o.op with
        | none =>
          obtain ⟨hdo, hns⟩ := dry_op hR.wr hR.fr hfo hdry hld hx
          obtain ⟨u, w', m', hrun, hW', hv, hE⟩ := opA_ok hR.wr hR.fr hx
          have hrun : (execOp a.eval o).run P w = .ok (.value u) w' := by
            rcases hrun with hrun | ⟨hrun, _⟩
            · exact hrun
            · exact absurd hrun (hns _ _)
          obtain ⟨rfl, hall⟩ := hdo _ _ _ hrun
          obtain ⟨h1, h2, h3, h4, h5⟩ := putA_ok (m := m') (a := a) hpt (hR.fr.mono hE.le) hv
          have hh : heldO P i o σ.fr x.v hd = hd := by unfold heldO; rw [hld]
          rw [hh] at hk
          refine first (fun _ => True) u (.inl ⟨hwant, fun w _ => hall w⟩) trivial ?_
          have hE' : Evo m σ.h w' m' σ'.h w' := by rw [h2]; rw [s1] at hE; exact hE
          refine IH (gas + f) (by omega) gas f _ r E rfl (by omega) hpr σ' m' w' _ hd _ hk ⟨by rw [h2, h3]; rw [s1, s2] at hW'; exact hW', h1, by rw [h4, h5]; exact hR.mks.mono hE.le⟩ (hF.mono hE.le) (hE0.trans hE') (fun c hc => ?_) ((hA.step hE' (hsame _)).list hiE)
          rcases List.mem_cons.1 hc with rfl | hc
          · exact .any fun _ => trivial
          · exact (hC c hc).mono hE.le fun _ h => h
        | some l =>
          obtain ⟨t, y⟩ := l
          have ho := isLoad_some hld
          rw [ho] at hx
          obtain ⟨q, hq, hx⟩ := bind_some (show ((evA σ.fr y).bind asP).bind (fun p => (loadV P σ.h t p.b p.o).map (pv σ.h σ.nx)) = some x from hx)
          obtain ⟨v, hv, rfl⟩ := pv_some hx
          obtain ⟨v1, e1, hq'⟩ := bind_some hq
          have e1 := evA_ok hR.wr hR.fr e1
          rw [asP_some hq'] at e1
          obtain ⟨z, hz, e1⟩ := e1.ptr_inv
          obtain ⟨z', us, u, hz', hus, hcw, hvu, hrun⟩ := loadV_cells hR.wr hv
          rw [hz] at hz'; cases hz'
          obtain ⟨h1, h2, h3, h4, h5⟩ := putA_ok (m := m) (a := a) hpt hR.fr hvu
          have hh : heldO P i o σ.fr v hd = heldsOf i q.b q.o (bif (aggT P t).getD false then v.cells else [v]) hd := by
            unfold heldO; rw [hld]
            show heldL P i σ.fr v hd (t, y) = _
            unfold heldL
            rw [show (evA σ.fr y).bind asP = some q from hq]
          have hk : drawK P prim self ops sz r k (heldO P i o σ.fr v hd) σ' = true := hk
          rw [hh] at hk
          refine first (fun w => ∀ j x, us[j]? = some x → w.cell? ⟨z.blk, z.sh + q.o + j, none⟩ = some x) u (.inl ⟨hwant, fun w' hC' => ?_⟩) hcw ?_
          · simp [execOp, ho, Instr.loadAt, e1, Instr.sureAddr, hrun w' hC']
          · refine IH (gas + f) (by omega) gas f _ r E rfl (by omega) hpr σ' m w _ _ _ hk ⟨by rw [h2, h3]; exact hR.wr, h1, by rw [h4, h5]; exact hR.mks⟩ hF (by rw [h2]; exact hE0) (fun c hc => ?_) (by rw [h2]; exact (hA.step (Evo.refl m _ w) (hsame _)).list hiE)
            rcases List.mem_cons.1 hc with rfl | hc
            · exact .cells q.b q.o z _ us hz hus (fun j v hj => heldsOf_new _ _ _ j v hj) (fun _ h => h) (fun _ h => h)
            · exact (hC c hc).mono (Le.refl m) fun d h => heldsOf_old _ _ _ d h
    · split at hpl
      · rename_i c hfc
        obtain ⟨hsep, hpl⟩ := cond_some hpl
        obtain ⟨o, hi, hpl⟩ := bind_some hpl
        obtain ⟨r, hpr, rfl⟩ := map_some hpl
        have hcm : c ∈ (Region.ready .any ops listed).filter (fun i => !alOk ops listed i) := by rw [hfc]; simp
        obtain ⟨hmem, hcal⟩ := List.mem_filter.1 hcm
        have hcal : alOk ops listed c = false := by simpa using hcal
        have hcE : c ∉ E.map (·.1) := fun hm => by rw [hA.al c hm] at hcal; cases hcal
        obtain ⟨f, rfl⟩ := hfuel c hmem hcE
        obtain ⟨hnews, hk1⟩ := cond_true (show (bif newsOk P σ (opersOf ops ((Region.ready .any ops listed).filter (alOk ops listed))) then efK P prim self ops o sz hd σ (drawK P prim self ops sz r k) else false) = true from hk)
        have hk2 : ops1 P prim self ops sz o σ (fun σ' => bif heldB o σ'.h hd then drawK P prim self ops sz r k hd σ' else false) = true := hk1
        have hap := hA.apart hmem hi hcE
        have hcr := ready_listE hmem hcE
        refine ⟨fun h => (by rw [h] at hcr; cases hcr), fun j hj => ?_⟩
        obtain ⟨hjr, hjE⟩ := ready_back hsep (fun i hi => List.mem_filter.2 ⟨hA.rd i hi, hA.al i hi⟩) (List.mem_singleton.2 rfl) (un_of_true (mem_ready.1 hcr).1) hj
        by_cases hjc : j = c
        · subst hjc
          have h0 : wpOpIn F n P ops (cut Q) j (fun a' w' => ∃ σ' m', heldB o σ'.h hd = true ∧ drawK P prim self ops sz r k hd σ' = true ∧ Rel P m' sz σ' w' a' ∧ Evo m σ.h w m' σ'.h w') a w := by
            unfold wpOpIn
            simp only [hi]
            refine ops1_ok hN hp hS hk2 (rd := rd) hR hF fun σ' m' w' a' hk' hR' hE => ?_
            obtain ⟨hh, hk'⟩ := cond_true hk'
            exact ⟨σ', m', hh, hk', hR', hE⟩
          have h1 := wpOpIn_putE (fun f => hF.fn f) (hnd j o · hi) hi (hsel j o · · hi) (fun _ _ _ h => h) E hap (wpOpIn_shape (fun f => hF.fn f) (hnd j o · hi) hi (fun _ _ _ h => h) h0)
          refine wpOpIn_mono (fun a' w' hx => ?_) h1
          obtain ⟨a1, rfl, ⟨u, D, rfl⟩, σ', m', hh, hk', hR', hE⟩ := hx
          refine ⟨keeps_ok hi hC hE.le hR'.wr hh, ?_⟩
          rw [← listE_comm hcE]
          refine IH (gas + f) (by omega) gas f _ r E rfl (by omega) hpr σ' m' w' _ hd S hk' hR' (hF.mono hE.le) (hE0.trans hE) (fun c hc => (hC c hc).mono hE.le fun _ h => h) ((hA.step hE fun p hp o' ho' => ?_).list hcE)
          obtain ⟨o2, ho2, hap2⟩ := hap p hp
          rw [ho'] at ho2; cases ho2
          rw [execOp_put o' (hsel p.1 o' · · ho') _ o.dst u (Oper.apart_spec hap2).2.2]
          rfl
        · have hjal : alOk ops listed j = true := by
            cases hb : alOk ops listed j with
            | true => rfl
            | false =>
              have : j ∈ (Region.ready .any ops listed).filter (fun i => !alOk ops listed i) := List.mem_filter.2 ⟨hjr, by simp [hb]⟩
              rw [hfc] at this
              exact absurd (List.mem_singleton.1 this) hjc
          exact early j f rfl hjr hjE hjal fun o ho => newsOk_some hnews (List.mem_filter.2 ⟨hjr, hjal⟩) ho
      · rename_i hnil
        have hal : ∀ j ∈ Region.ready .any ops listed, alOk ops listed j = true := fun j hj => by
          cases hb : alOk ops listed j with
          | true => rfl
          | false =>
            have : j ∈ (Region.ready .any ops listed).filter (fun i => !alOk ops listed i) := List.mem_filter.2 ⟨hj, by simp [hb]⟩
            rw [hnil] at this; cases this
        split at hpl
        · cases hpl
        · rename_i i t hrs
          obtain ⟨hsep, hpl⟩ := cond_some hpl
          obtain ⟨o, hi, hpl⟩ := bind_some hpl
          obtain ⟨r, hpr, rfl⟩ := map_some hpl
          obtain ⟨hnews, hk1⟩ := cond_true (show (bif newsOk P σ (opersOf ops (i :: t)) then finO sz σ o.dst (drawK P prim self ops sz r k hd) (opA o.op P σ.fr σ.h σ.nx) else false) = true from hk)
          have hmem : i ∈ Region.ready .any ops listed := by rw [hrs]; simp
          by_cases hiE : i ∈ E.map (·.1)
          · obtain ⟨⟨i', blk⟩, hq, hqi⟩ := List.mem_map.1 hiE
            simp only at hqi
            subst hqi
            have hnd1 : i' ∉ (E.erase (i', blk)).map (·.1) := fun hm => by
              obtain ⟨⟨p1, p2⟩, hp, hpe⟩ := List.mem_map.1 hm
              simp only at hpe
              subst hpe
              have hn2 : E.Nodup := List.Pairwise.of_map (·.1) (fun a b h e => h (congrArg _ e)) hA.nd
              obtain ⟨hne, hp'⟩ := (hn2.mem_erase_iff).1 hp
              exact hne (nodup_fst hA.nd hp' hq rfl)
            have hsub : ∀ p ∈ E.erase (i', blk), p ∈ E := fun p hp => List.mem_of_mem_erase hp
            have hdst : ∀ p ∈ E, p.1 ≠ i' → ∀ d, ((ops[i']?).bind (·.dst)) = some d → ((ops[p.1]?).bind (·.dst)) ≠ some d := fun p hp hpi d hd' => by
              have hm : p.1 ∈ E.map (·.1) := List.mem_map.2 ⟨p, hp, rfl⟩
              obtain ⟨o', ho', _, hf', _⟩ := alOk_some (hal i' hmem)
              rw [hi] at ho'; cases ho'
              obtain ⟨op, hop, _, _⟩ := alOk_some (hA.al _ hm)
              have hap := Region.free_spec hi hf' p.1 op hop hpi (mem_ready.1 (hA.rd _ hm)).1 fun e he hb heq => by
                obtain ⟨_, op', hop', hall⟩ := mem_ready.1 (hA.rd _ hm)
                rw [hop] at hop'; cases hop'
                have h1 := hall e he hb
                rw [heq, un_of_true (mem_ready.1 hmem).1] at h1
                cases h1
              rw [hi] at hd'
              rw [hop]
              exact (Oper.apart_spec hap).2.1 d hd'
            obtain ⟨el, ep⟩ := early_pull (listed := listed) (a := a) (i', blk) E hq hA.nd hdst
            simp only at el ep
            have hA1 : ErAll P ops w0.heap.size m σ.h w a listed (E.erase (i', blk)) := ⟨fun p hp => hA.ok p (hsub p hp), hA.nd.sublist (List.Sublist.map _ List.erase_sublist), hA.nb.sublist (List.Sublist.map _ List.erase_sublist), fun j hj => by
                obtain ⟨p, hp, rfl⟩ := List.mem_map.1 hj
                exact hA.rd _ (List.mem_map.2 ⟨p, hsub p hp, rfl⟩), fun j hj => by
                obtain ⟨p, hp, rfl⟩ := List.mem_map.1 hj
                exact hA.al _ (List.mem_map.2 ⟨p, hsub p hp, rfl⟩)⟩
            have hap := hA1.apart hmem hi hnd1
            obtain ⟨o', obj, ho', hno, _, hrun, hheap, hB, hnl⟩ := hA.ok _ hq
            rw [hi] at ho'; cases ho'
            simp only at hheap hB hnl
            rw [el, ep, hi, show ((some o).bind fun x => x.dst) = o.dst from rfl, show ((some o).map fun x => x.op).getD (.move (.tmp 0)) = o.op from rfl, putE_put a _ _ hap, ← listE_comm hnd1]
            obtain ⟨x, hx⟩ := newsOk_some hnews (List.mem_cons_self (a := i')) hi
            rw [hx] at hk1
            obtain ⟨σ', hpt, hk3⟩ := contO_some (show contO (drawK P prim self ops sz r k hd) x.v (putA ⟨σ.fr, σ.ds, x.h, x.nx⟩ sz o.dst x.v) = true from hk1)
            obtain ⟨obj', ao, hrun', e1, e2, hor⟩ := new_ok hR.wr hR.fr hno hx
            obtain rfl : obj = obj' := by
              have h1 := hrun w
              rw [hrun' w] at h1
              simp only [Result.ok.injEq] at h1
              exact (alloc_inj h1.2).symm
            have hle := upd_le (⟨blk, 0, 0⟩ : Cz) (hR.wr.fresh σ.nx (Nat.le_refl _))
            obtain ⟨hor1, hor2⟩ := hor (upd m σ.nx ⟨blk, 0, 0⟩) w blk hle (upd_at _ _ _) hheap
            have hW' := hR.wr.graft ao ⟨blk, 0, 0⟩ hnl hor1
            obtain ⟨h1, h2, h3, h4, h5⟩ := putA_ok (m := upd m σ.nx ⟨blk, 0, 0⟩) (σ := ⟨σ.fr, σ.ds, x.h, x.nx⟩) (a := a) hpt (hR.fr.mono hle) hor2
            simp only at h2 h3 h4
            rw [e1] at h2
            rw [e2] at h3
            have hlv : ∀ j, j ≠ blk → Lives (upd m σ.nx ⟨blk, 0, 0⟩) (σ.h.set .dead σ.nx ao) j → Lives m σ.h j := fun j hj ⟨b, z, hb1, hb2, hb3⟩ => by
              rw [Tr.get_set] at hb3
              by_cases hbn : b = σ.nx
              · subst hbn; rw [upd_at] at hb1; cases hb1; exact absurd hb2.symm hj
              · rw [if_neg hbn] at hb3; rw [upd_ne m _ hbn] at hb1
                exact ⟨b, z, hb1, hb2, hb3⟩
            have hln : (E.erase (i', blk)).length + 1 = E.length := by rw [List.length_erase_of_mem hq]; have := List.length_pos_of_mem hq; omega
            refine IH (gas + fuel) (by omega) gas fuel _ r (E.erase (i', blk)) rfl (by omega) hpr σ' (upd m σ.nx ⟨blk, 0, 0⟩) w _ hd S hk3 ⟨by rw [h2, h3]; exact hW', h1, by rw [h4, h5]; exact hR.mks.mono hle⟩ (hF.mono hle) ?_ (fun c hc => (hC c hc).mono hle fun _ h => h) ?_
            · rw [h2]
              refine ⟨hE0.le.trans hle, hE0.os, hE0.tape, hE0.output, hE0.size, hE0.keep, fun j hj ⟨b, z, hb1, hb2, hb3⟩ => ?_, fun j hj hl => hE0.liv j hj (hlv j (by omega) hl)⟩
              rw [Tr.get_set] at hb3
              by_cases hbn : b = σ.nx
              · subst hbn; rw [upd_at] at hb1; cases hb1; simp only at hb2; omega
              · rw [if_neg hbn] at hb3; rw [upd_ne m _ hbn] at hb1
                exact hE0.own j hj ⟨b, z, hb1, hb2, hb3⟩
            · rw [h2]
              refine ErAll.list ⟨fun p hp => ?_, hA1.nd, hA1.nb, hA1.rd, hA1.al⟩ hnd1
              obtain ⟨op, objp, g1, g2, g3, g4, g5, g6, g7⟩ := hA1.ok p hp
              refine ⟨op, objp, g1, g2, g3, fun w2 => ?_, g5, g6, fun hl => g7 (hlv p.2 (fun e => ?_) hl)⟩
              · obtain ⟨o2, ho2, hap2⟩ := hap p hp
                rw [g1] at ho2; cases ho2
                rw [execOp_put op (hsel p.1 op · · g1) a o.dst _ (Oper.apart_spec hap2).2.2]
                exact g4 w2
              · have hn2 : E.Nodup := List.Pairwise.of_map (·.1) (fun a b h e => h (congrArg _ e)) hA.nd
                obtain ⟨hne, hp'⟩ := (hn2.mem_erase_iff).1 hp
                exact hne (nodup_snd hA.nb hp' hq e)
          · obtain ⟨f, rfl⟩ := hfuel i hmem hiE
            have hcr := ready_listE hmem hiE
            refine ⟨fun h => (by rw [h] at hcr; cases hcr), fun j hj => ?_⟩
            obtain ⟨hjr, hjE⟩ := ready_back hsep (fun i' hi' => by rw [← hrs]; exact hA.rd i' hi') (List.mem_cons_self (a := i)) (un_of_true (mem_ready.1 hcr).1) hj
            exact early j f rfl hjr hjE (hal j hjr) fun o ho => newsOk_some hnews (by rw [← hrs]; exact hjr) ho
      · cases hpl
theorem c_draw (hN : NoNum P) (hp : PrimOk P prim) (hmx : P.follows .mixedOrders = true) (hS : SelfOk P self) {cx : Cx} {σ : St} {k : Kx} {id : Nat} {ops : Array Oper} (hk : drawO P prim self ops cx.sz σ k (planOf P ops) = true) : CodeOk P (.region id ops true) cx σ k := fun m w a F Q n hR hF hU => by
  cases hpl : planOf P ops with
  | none => rw [hpl] at hk; cases hk
  | some p =>
    rw [hpl] at hk
    obtain ⟨hok, hpl⟩ := cond_some hpl
    obtain ⟨hs, hd⟩ := Bool.and_eq_true_iff.1 hok
    have hE1 : Evo m σ.h w m σ.h ({ w with drawn := w.drawn + 1 } : World) := Evo.drew rfl rfl rfl rfl
    refine wpIn_mono (wpIn_region_any (Q := cut Q) hmx (wpAnyC.any _ (drawK_ok (w0 := w) hN hp hS (fun j o c hj ho => ?_) (Region.noSelect_spec hs) hU _ ops.size ops.size _ p [] rfl rfl hpl σ m { w with drawn := w.drawn + 1 } a [] [] hk ⟨hR.wr.drew rfl, hR.fr, hR.mks⟩ hF hE1 (fun c hc => by cases hc) ⟨fun p hp => (by cases hp), List.nodup_nil, List.nodup_nil, fun i hi => (by cases hi), fun i hi => (by cases hi)⟩))) fun e a' w' h => ?_
    · have := Array.all_eq_true_iff_forall_mem.1 hd o (Array.mem_of_getElem? hj)
      unfold noDefer at this
      rw [ho] at this; cases this
    · cases e <;> first | exact h | cases h
end
end Ex
end Go.Proofs.YtajoljoegbeiiaaGreatDoor
