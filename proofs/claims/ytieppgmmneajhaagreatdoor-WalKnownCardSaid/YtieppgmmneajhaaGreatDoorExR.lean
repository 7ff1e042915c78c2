/-
  The executor: regions that draw their order.
-/
import Derived.Test.YtieppgmmneajhaaGreatDoorExQ
namespace Go.Proofs.YtieppgmmneajhaaGreatDoor
set_option linter.all false
namespace Ex
open Go.RowKit
section
variable {P : Program} {prim : Prim} {self : Self} {sz : Nat}
/-- What an operation that was taken first leans on. -/
inductive CR (m : Mz) (hd : Held) : Nat × (World → Prop) → Prop
  | any {i : Nat} {C : World → Prop} (h : ∀ w, C w) : CR m hd (i, C)
  | cells {i : Nat} {C : World → Prop} (b o : Nat) (z : Cz) (vs : List AV) (us : List Value) (hz : m b = some z) (hv : VRL m vs us) (hh : ∀ j v, vs[j]? = some v → (⟨i, b, o + j, v⟩ : Hd) ∈ hd)
      (hC : ∀ w, (∀ j u, us[j]? = some u → w.cell? ⟨z.blk, z.sh + o + j, none⟩ = some u) → C w)
      (hC' : ∀ w, C w → ∀ j u, us[j]? = some u → w.cell? ⟨z.blk, z.sh + o + j, none⟩ = some u) : CR m hd (i, C)
theorem CR.mono {m m' : Mz} {hd hd' : Held} {c : Nat × (World → Prop)} (hc : CR m hd c) (hm : Le m m') (hh : ∀ d ∈ hd, d ∈ hd') : CR m' hd' c := by
  cases hc with
  | any h => exact .any h
  | cells b o z vs us h1 h2 h3 h4 h5 => exact .cells b o z vs us (hm _ _ h1) (h2.mono hm) (fun j v hj => hh _ (h3 j v hj)) h4 h5
theorem heldsOf_cons (i b o : Nat) (v : AV) (vs : List AV) (l : Held) : heldsOf i b o (v :: vs) l = ⟨i, b, o, v⟩ :: heldsOf i b (o + 1) vs l := by rw [heldsOf]
theorem heldsOf_nil (i b o : Nat) (l : Held) : heldsOf i b o [] l = l := by rw [heldsOf]
theorem heldsOf_old {i b : Nat} : ∀ (vs : List AV) (o : Nat) (l : Held), ∀ d ∈ l, d ∈ heldsOf i b o vs l
  | [], _, _, _, h => by rw [heldsOf_nil]; exact h
  | v :: vs, o, l, d, h => by rw [heldsOf_cons]; exact List.mem_cons_of_mem _ (heldsOf_old vs (o + 1) _ d h)
theorem heldsOf_new {i b : Nat} : ∀ (vs : List AV) (o : Nat) (l : Held) (j : Nat) (v : AV), vs[j]? = some v → (⟨i, b, o + j, v⟩ : Hd) ∈ heldsOf i b o vs l
  | [], _, _, _, _, h => by simp at h
  | v :: vs, o, l, 0, _, h => by cases h; rw [heldsOf_cons]; exact List.mem_cons_self
  | x :: vs, o, l, j + 1, v, h => by
    have := heldsOf_new (i := i) (b := b) vs (o + 1) l j v (by simpa using h)
    rw [show o + 1 + j = o + (j + 1) by omega] at this
    rw [heldsOf_cons]; exact List.mem_cons_of_mem _ this
theorem heldO_old {i : Nat} {o : Oper} {fr : Fm} {v : AV} {hd : Held} : ∀ d ∈ hd, d ∈ heldO P i o fr v hd := fun d h => by
  unfold heldO heldL
  split
  · split
    · exact heldsOf_old _ _ _ d h
    · exact h
  · exact h
/-- What an effect leaves as it was. -/
theorem keeps_ok {ops : Array Oper} {i : Nat} {o : Oper} (hi : ops[i]? = some o) {m m' : Mz} {h' : Hp} {nx' : Nat} {w w' : World} {hd : Held} {S : Cs} (hS : ∀ c ∈ S, CR m hd c) (hm : Le m m') (hW : WR P m' h' nx' w') (hk : heldB o h' hd = true) : Keeps ops S i w w' := by
  intro c hc
  by_cases hwt : waitsOn o c.1 = true
  · left
    refine ⟨o, hi, ?_⟩
    obtain ⟨e, he, hb⟩ := Array.any_eq_true'.1 hwt
    obtain ⟨h1, h2⟩ := Bool.and_eq_true_iff.1 hb
    exact ⟨e, he, h1, Nat.eq_of_beq_eq_true h2⟩
  · right
    intro hC
    obtain ⟨ci, cC⟩ := c
    have := hS _ hc
    cases this with
    | any h => exact h w'
    | cells b q z vs us h1 h2 h3 h4 h5 =>
      refine h4 w' fun j u hj => ?_
      obtain ⟨v, hv⟩ : ∃ v, vs[j]? = some v := by
        have hl := h2.length
        have hlt := (List.getElem?_eq_some_iff.1 hj).1
        exact ⟨_, List.getElem?_eq_getElem (by omega)⟩
      obtain ⟨u', hu', hvu⟩ := h2.get j v hv
      rw [hj] at hu'; cases hu'
      have hall := List.all_eq_true.1 hk _ (h3 j v hv)
      unfold held1 at hall
      have hwt : waitsOn o (⟨ci, b, q + j, v⟩ : Hd).i = false := by simpa using hwt
      rw [hwt] at hall
      obtain ⟨y, hy, hs⟩ := map_some (getD_true (show ((loadCell h' b (q + j)).map (sameC v)).getD false = true from hall))
      obtain ⟨z', u2, hz', hcell, hvr⟩ := loadCell_ok hW hy
      rw [hm _ _ h1] at hz'; cases hz'
      have : u2 = u := eqAV_ok (show eqAV 6 y v = true from hs) hvr (hvu.mono hm)
      subst this
      rw [Nat.add_assoc]; exact hcell
/-- A load reads its cells, in whatever world. -/
theorem loadV_cells {m : Mz} {h : Hp} {nx : Nat} {w : World} (hW : WR P m h nx w) {t : TypeId} {b o : Nat} {v : AV} (hl : loadV P h t b o = some v) : ∃ z us u, m b = some z ∧ VRL m (bif (aggT P t).getD false then v.cells else [v]) us ∧
    (∀ j x, us[j]? = some x → w.cell? ⟨z.blk, z.sh + o + j, none⟩ = some x) ∧ VR m v u ∧ ∀ w' : World, (∀ j x, us[j]? = some x → w'.cell? ⟨z.blk, z.sh + o + j, none⟩ = some x) → (loadVar t ⟨z.blk, z.sh + o, none⟩).run P w' = .ok u w' := by
  obtain ⟨g, hg, hl⟩ := bind_some hl
  rw [hg]
  cases g with
  | true =>
    have hl1 : ((sizeT P t).bind (loadN h b o)).map .agg = some v := hl
    obtain ⟨l, hl2, rfl⟩ := map_some hl1
    obtain ⟨n, hn, hl3⟩ := bind_some hl2
    obtain ⟨z, us, hz, hlen, hv, hc⟩ := loadN_ok hW hl3
    refine ⟨z, us, .agg us.toArray, hz, hv, hc, .agg (by simpa using hv), fun w' hc' => ?_⟩
    simp [loadVar, run_isAgg hg, run_sizeOf hn, run_loadCells_us hlen hc']
  | false =>
    obtain ⟨z, u, hz, hc, hv⟩ := loadCell_ok hW (show loadCell h b o = some v from hl)
    refine ⟨z, [u], u, hz, .cons hv .nil, fun j x hj => ?_, hv, fun w' hc' => ?_⟩
    · cases j with
      | zero => cases hj; exact hc
      | succ j => simp at hj
    · have := hc' 0 u rfl
      simp only [Nat.add_zero] at this
      simp [loadVar, run_isAgg hg, this]
/-- Only the normal end. -/
def cut (Q : Exit → Act → World → Prop) : Exit → Act → World → Prop := fun e a w => match e with
  | .normal => Q .normal a w
  | _ => False
theorem isLoad_some {o : Op} {l : TypeId × Operand} (h : isLoad o = some l) : o = .load l.1 l.2 := by cases o <;> first | (cases h; rfl) | cases h
theorem drawK_ok (hN : NoNum P) (hp : PrimOk P prim) (hS : SelfOk P self) {ops : Array Oper} (hnd : ∀ (j : Nat) (o : Oper) c, ops[j]? = some o → o.op ≠ .defer c) (hsel : ∀ (j : Nat) (o : Oper) cs b, ops[j]? = some o → o.op ≠ .select cs b)
    {rd : Option Nat} {F : Fence} {n : Nat} {Q : Exit → Act → World → Prop} {k : Kx} :
    ∀ (gas : Nat) (listed : Array Bool) (p : Plan), planGo P ops gas listed = some p → ∀ (σ : St) (m : Mz) (w : World) (a : Act) (hd : Held) (S : Cs), drawK P prim self ops sz p k hd σ = true → Rel P m sz σ w a → RdR m rd F → Upon P m sz σ.h w k Q → (∀ c ∈ S, CR m hd c) →
      wpAnyC F n P ops (cut Q) S gas listed a w := by
  intro gas
  induction gas with
  | zero =>
    intro listed p hpl σ m w a hd S hk hR hF hU hC
    unfold planGo at hpl
    split at hpl
    · rename_i hr
      cases hpl
      exact ⟨hr, hU .nm σ m w a hk hR (Evo.refl m _ w)⟩
    · cases hpl
  | succ gas ih =>
    intro listed p hpl σ m w a hd S hk hR hF hU hC
    unfold planGo at hpl
    split at hpl
    · rename_i hr
      cases hpl
      refine ⟨fun _ => hU .nm σ m w a hk hR (Evo.refl m _ w), fun i hi => ?_⟩
      rw [hr] at hi; cases hi
    · rename_i hne
      split at hpl
      · rename_i i hfind
        obtain ⟨o, hi, hpl⟩ := bind_some hpl
        obtain ⟨r, hpr, rfl⟩ := map_some hpl
        have hmem := List.mem_of_find?_eq_some hfind
        have hfl := List.find?_some hfind
        unfold flOk at hfl
        rw [hi] at hfl
        obtain ⟨hfo, hfree⟩ := Bool.and_eq_true_iff.1 (show (floatO P o.op && Region.free .any ops listed i) = true from hfl)
        have hk : flK P ops i o sz hd σ (drawK P prim self ops sz r k) = true := hk
        unfold flK at hk
        have first : ∀ (C : World → Prop) (v : Value), YieldsC P ops C o v a → C w → wpAnyC F n P ops (cut Q) ((i, C) :: S) gas (listed.setIfInBounds i true) (a.put o.dst v) w → wpAnyC F n P ops (cut Q) S (gas + 1) listed a w := fun C v hy hCw H =>
          wpAnyC_first (fun f => hF.fn f) hnd hi hsel (fun _ _ _ h => h) gas listed a w (Region.free_spec hi hfree) hmem hy hCw H
        cases hw : wantA ops o σ.fr with
        | false =>
          rw [hw] at hk
          obtain ⟨σ', hpt, hk⟩ := contO_some (show contO (drawK P prim self ops sz r k hd) un (putA σ sz o.dst un) = true from hk)
          obtain ⟨h1, h2, h3, h4, h5⟩ := putA_ok (m := m) (a := a) hpt hR.fr (un_undef m)
          refine first (fun _ => True) undef (.inr ⟨by rw [want_ok hR.fr]; exact hw, rfl⟩) trivial ?_
          refine ih _ r hpr σ' m w _ hd _ hk ⟨by rw [h2, h3]; exact hR.wr, h1, by rw [h4, h5]; exact hR.mks⟩ hF (by rw [h2]; exact hU) fun c hc => ?_
          rcases List.mem_cons.1 hc with rfl | hc
          · exact .any fun _ => trivial
          · exact hC c hc
        | true =>
          rw [hw] at hk
          obtain ⟨hdry, hk⟩ : dryO σ.fr o.op = true ∧ ((opA o.op P σ.fr σ.h σ.nx).map (flGo P i o sz hd σ (drawK P prim self ops sz r k))).getD false = true := by
            cases hb : dryO σ.fr o.op with
            | true => rw [hb] at hk; exact ⟨rfl, hk⟩
            | false => rw [hb] at hk; cases hk
          obtain ⟨x, hx, hk⟩ := map_some (getD_true hk)
          have hk : contO (drawK P prim self ops sz r k (heldO P i o σ.fr x.v hd)) x.v (putA σ sz o.dst x.v) = true := hk
          obtain ⟨σ', hpt, hk⟩ := contO_some hk
          obtain ⟨s1, s2⟩ := float_same hfo hx
          have hwant : Region.wanted o (yielded ops a.tmps) = true := by rw [want_ok hR.fr]; exact hw
          cases hld : isLoad o.op with
          | none =>
            obtain ⟨hdo, hns⟩ := dry_op hR.wr hR.fr hfo hdry hld hx
            obtain ⟨u, w', m', hrun, hW', hv, hE⟩ := opA_ok hR.wr hR.fr hx
            have hrun : (execOp a.eval o).run P w = .ok (.value u) w' := by
              rcases hrun with hrun | ⟨hrun, _⟩
              · exact hrun
              · exact absurd hrun (hns _ _)
            obtain ⟨rfl, hall⟩ := hdo _ _ _ hrun
            obtain ⟨h1, h2, h3, h4, h5⟩ := putA_ok (m := m') (a := a) hpt (hR.fr.mono hE.le) hv
            have hh : heldO P i o σ.fr x.v hd = hd := by unfold heldO; rw [hld]
            rw [hh] at hk
            refine first (fun _ => True) u (.inl ⟨hwant, fun w _ => hall w⟩) trivial ?_
            have hE' : Evo m σ.h w' m' σ'.h w' := by rw [h2]; rw [s1] at hE; exact hE
            refine ih _ r hpr σ' m' w' _ hd _ hk ⟨by rw [h2, h3]; rw [s1, s2] at hW'; exact hW', h1, by rw [h4, h5]; exact hR.mks.mono hE.le⟩ (hF.mono hE.le) (hU.later hE') fun c hc => ?_
            rcases List.mem_cons.1 hc with rfl | hc
            · exact .any fun _ => trivial
            · exact (hC c hc).mono hE.le fun _ h => h
          | some l =>
            obtain ⟨t, y⟩ := l
            have ho := isLoad_some hld
            rw [ho] at hx
            obtain ⟨q, hq, hx⟩ := bind_some (show ((evA σ.fr y).bind asP).bind (fun p => (loadV P σ.h t p.b p.o).map (pv σ.h σ.nx)) = some x from hx)
            obtain ⟨v, hv, rfl⟩ := pv_some hx
            obtain ⟨v1, e1, hq'⟩ := bind_some hq
            have e1 := evA_ok hR.wr hR.fr e1
            rw [asP_some hq'] at e1
            obtain ⟨z, hz, e1⟩ := e1.ptr_inv
            obtain ⟨z', us, u, hz', hus, hcw, hvu, hrun⟩ := loadV_cells hR.wr hv
            rw [hz] at hz'; cases hz'
            obtain ⟨h1, h2, h3, h4, h5⟩ := putA_ok (m := m) (a := a) hpt hR.fr hvu
            have hh : heldO P i o σ.fr v hd = heldsOf i q.b q.o (bif (aggT P t).getD false then v.cells else [v]) hd := by
              unfold heldO; rw [hld]
              show heldL P i σ.fr v hd (t, y) = _
              unfold heldL
              rw [show (evA σ.fr y).bind asP = some q from hq]
            have hk : drawK P prim self ops sz r k (heldO P i o σ.fr v hd) σ' = true := hk
            rw [hh] at hk
            refine first (fun w => ∀ j x, us[j]? = some x → w.cell? ⟨z.blk, z.sh + q.o + j, none⟩ = some x) u (.inl ⟨hwant, fun w' hC' => ?_⟩) hcw ?_
            · simp [execOp, ho, Instr.loadAt, e1, Instr.sureAddr, hrun w' hC']
            · refine ih _ r hpr σ' m w _ _ _ hk ⟨by rw [h2, h3]; exact hR.wr, h1, by rw [h4, h5]; exact hR.mks⟩ hF (by rw [h2]; exact hU) fun c hc => ?_
              rcases List.mem_cons.1 hc with rfl | hc
              · exact .cells q.b q.o z _ us hz hus (fun j v hj => heldsOf_new _ _ _ j v hj) (fun _ h => h) (fun _ h => h)
              · exact (hC c hc).mono (Le.refl m) fun d h => heldsOf_old _ _ _ d h
      · split at hpl
        · rename_i i hr
          obtain ⟨o, hi, hpl⟩ := bind_some hpl
          obtain ⟨r, hpr, rfl⟩ := map_some hpl
          refine ⟨fun h => (by rw [hr] at h; cases h), fun j hj => ?_⟩
          rw [hr] at hj
          have hj : j = i := by simpa using hj
          subst hj
          have hk : ops1 P prim self ops sz o σ (fun σ' => bif heldB o σ'.h hd then drawK P prim self ops sz r k hd σ' else false) = true := hk
          unfold wpOpIn
          simp only [hi]
          refine ops1_ok hN hp hS hk (rd := rd) hR hF fun σ' m' w' a' hk' hR' hE => ?_
          obtain ⟨hh, hk'⟩ : heldB o σ'.h hd = true ∧ drawK P prim self ops sz r k hd σ' = true := by
            have hk' : (bif heldB o σ'.h hd then drawK P prim self ops sz r k hd σ' else false) = true := hk'
            cases hb : heldB o σ'.h hd with
            | true => rw [hb] at hk'; exact ⟨rfl, hk'⟩
            | false => rw [hb] at hk'; cases hk'
          exact ⟨keeps_ok hi hC hE.le hR'.wr hh, ih _ r hpr σ' m' w' a' hd S hk' hR' (hF.mono hE.le) (hU.later hE) fun c hc => (hC c hc).mono hE.le fun _ h => h⟩
        · cases hpl
theorem c_draw (hN : NoNum P) (hp : PrimOk P prim) (hmx : P.follows .mixedOrders = true) (hS : SelfOk P self) {cx : Cx} {σ : St} {k : Kx} {id : Nat} {ops : Array Oper} (hk : drawO P prim self ops cx.sz σ k (planOf P ops) = true) : CodeOk P (.region id ops true) cx σ k := fun m w a F Q n hR hF hU => by
  cases hpl : planOf P ops with
  | none => rw [hpl] at hk; cases hk
  | some p =>
    rw [hpl] at hk
    obtain ⟨hok, hpl⟩ := cond_some hpl
    obtain ⟨hs, hd⟩ := Bool.and_eq_true_iff.1 hok
    refine wpIn_mono (wpIn_region_any (Q := cut Q) hmx (wpAnyC.any _ (drawK_ok hN hp hS (fun j o c hj ho => ?_) (Region.noSelect_spec hs) ops.size _ p hpl σ m { w with drawn := w.drawn + 1 } a [] [] hk ⟨hR.wr.drew rfl, hR.fr, hR.mks⟩ hF (hU.later (Evo.drew rfl rfl rfl rfl)) fun c hc => by cases hc))) fun e a' w' h => ?_
    · have := Array.all_eq_true_iff_forall_mem.1 hd o (Array.mem_of_getElem? hj)
      unfold noDefer at this
      rw [ho] at this; cases this
    · cases e <;> first | exact h | cases h
end
end Ex
end Go.Proofs.YtieppgmmneajhaaGreatDoor
