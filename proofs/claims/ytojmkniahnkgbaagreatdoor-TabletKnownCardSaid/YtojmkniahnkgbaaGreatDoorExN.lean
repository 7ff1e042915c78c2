/-
  The executor: ranges over functions.
-/
import Derived.Test.YtojmkniahnkgbaaGreatDoorExM
namespace Go.Proofs.YtojmkniahnkgbaaGreatDoor
set_option linter.all false
namespace Ex
open Go.RowKit
section
variable {P : Program} {prim : Prim} {self : Self} {sz : Nat} {σ : St} {m m' : Mz} {w w' : World} {a : Act} {h : Hp} {nx : Nat}
/-- The function called with the loop's yield, and what comes behind. -/
theorem rf_call (hN : NoNum P) (hS : SelfOk P self) {cx : Cx} {k : Kx} {l : Nat} {f : AV} {ds : List Nat} {z : Cz} {F : Fence} {Q : Exit → Act → World → Prop} {n : Nat} {g : Operand} {a' : Act}
    (hk : rfGo P self cx k l ⟨σ.fr, ds, h, nx⟩ f = true) (hR : Rel P m cx.sz ⟨σ.fr, ds, h, nx⟩ w a') (hf : VR m f (a.eval g)) (hz : m l = some z) (hF : RdR m cx.rd F)
    (hU : Upon P m cx.sz h w k Q) :
    ∃ (d : Deferred) (q : FuncId) (args : Array Value), (resolve a.eval (rangeCall g z.blk) 0).run P w = .ok d w ∧ (invoke d.target d.args).run P w = .ok (.enter q args) w ∧ CallsIn F (n - 1) P q args w (rangePost F n P z.blk Q a') := by
  cases f with
  | fn fn first cap =>
    cases fn with
    | func q =>
      have hk : enterO P self (cat first (cat [.yld l] cap)) h nx (rfEnd self cx ⟨σ.fr, ds, h, nx⟩ k l) P.funcs[q]? = true := hk
      obtain ⟨fd, c, hfd, hb, hk⟩ := enterO_some hk
      obtain ⟨FV, hFV⟩ : ∃ FV, a.eval g = FV := ⟨_, rfl⟩
      rw [hFV] at hf
      cases hf with
      | fn _ hfirst hcap =>
        rename_i first' cap'
        refine ⟨{ target := .fn (.func q) cap', args := first' ++ #[.func (.yield z.blk) #[] #[]] }, q, first' ++ #[.func (.yield z.blk) #[] #[]] ++ cap', ?_, ?_, hF.calls ?_⟩
        · have e0 : a.eval (.const (.func (.yield z.blk) #[] #[])) = .func (.yield z.blk) #[] #[] := rfl
          simp [resolve, hFV, Deferred.ofValue, e0]
        · show (callFunc q (first' ++ #[.func (.yield z.blk) #[] #[]] ++ cap')).run P w = _
          exact callFunc_enter hN hfd hb _ _
        · refine enter_ok hS hfd hb hk hR.wr ?_ ?_
          · rw [cat_eq, cat_eq, ← List.append_assoc, Array.toList_append, Array.toList_append]
            exact (hfirst.append (.cons (.yld hz) .nil)).append hcap
          · intro r m' w' v hr hW' hv hE
            obtain ⟨lp, hl, hr⟩ := map_some (getD_true (show ((getLp r.h l).map (rfEnd2 self cx ⟨σ.fr, ds, h, nx⟩ k l r)).getD false = true from hr))
            obtain ⟨hst, hr⟩ : (lp.rdy || !isNm lp.left) = true ∧ k lp.left ⟨σ.fr, ds, r.h.set .dead l .dead, r.nx⟩ = true := by
              have hr : (bif lp.rdy || !isNm lp.left then k lp.left ⟨σ.fr, ds, r.h.set .dead l .dead, r.nx⟩ else false) = true := hr
              cases hb : lp.rdy || !isNm lp.left with
              | true => rw [hb] at hr; exact ⟨rfl, hr⟩
              | false => rw [hb] at hr; cases hr
            have hrel := hW'.rel l
            rw [getLp_some hl] at hrel
            obtain ⟨z', zd, fn', tmps', hz', hzd, hFr', hp⟩ := hrel
            rw [hE.le _ _ hz] at hz'; cases hz'
            have hend := run_endLoop (P := P) hp (stateOf_busy _ _ hst)
            obtain ⟨g1, g2⟩ := hW'.obj (w' := w'.putObj z.blk (.loop { state := .exhausted, pending := jumpOf lp.left, fn := fn', tmps := tmps', params := lp.ps.toArray, assign := lp.assign, body := lp.body, defers := zd.blk })) (b := l) (z := z) (ao' := .dead) (by rw [getLp_some hl]; rfl) (hE.le _ _ hz) (fun j hj => World.putObj_heap_other hj) World.putObj_size rfl rfl rfl rfl trivial
            have hQ := hU lp.left ⟨σ.fr, ds, r.h.set .dead l .dead, r.nx⟩ m' _ a' hr ⟨g1, hR.fr.mono hE.le, hR.mks.mono hE.le⟩ (hE.trans g2)
            refine ⟨jumpOf lp.left, _, hend, ?_⟩
            cases hx : lp.left with
            | nm => rw [hx] at hQ; exact hQ
            | ret => rw [hx] at hQ; exact wpIn_ret hQ
            | ex id => rw [hx] at hQ; exact wpIn_exit hQ
            | gt t => rw [hx] at hQ; exact wpIn_goto hQ
    | _ => cases hk
  | _ => cases hk
theorem c_range (hN : NoNum P) (hS : SelfOk P self) {cx : Cx} {k : Kx} {g : Operand} {ps : Array Tmp} {assign body : Code} (hk : ((evA σ.fr g).map (rfK P self ps.toList assign body cx σ k)).getD false = true) : CodeOk P (.rangeFunc g ps assign body) cx σ k := fun m w a F Q n hR hF hU => by
  obtain ⟨f, hf, hk⟩ := map_some (getD_true hk)
  have hfv := evA_ok hR.wr hR.fr hf
  refine wpIn_rangeFunc fun fn _ => ?_
  obtain ⟨csz, rd⟩ := cx
  cases rd with
  | none =>
    cases hF with
    | out =>
      have hk : rfGo P self ⟨csz, none⟩ k (σ.nx + 1) ⟨σ.fr, σ.nx :: σ.ds, setLp (σ.h.set .dead σ.nx .deferred) (σ.nx + 1) ⟨σ.fr, csz, ps.toList, assign, body, σ.nx, true, .nm⟩, σ.nx + 2⟩ f = true := hk
      obtain ⟨h1, h2⟩ := hR.wr.alloc (.deferred (some [])) .deferred ⟨w.heap.size, 0, 0⟩ rfl ⟨⟨w.heap.size, 0, 0⟩, upd_at _ _ _, heap_alloc_new w _⟩
      have hle1 := h2.le
      obtain ⟨h3, h4⟩ := h1.alloc (.loop { state := .ready, pending := none, fn, tmps := a.tmps, params := ps, assign, body, defers := w.heap.size }) (.loop ⟨σ.fr, csz, ps.toList, assign, body, σ.nx, true, .nm⟩) ⟨w.heap.size + 1, 0, 0⟩ (World.size_alloc _ _).symm
        ⟨⟨w.heap.size + 1, 0, 0⟩, ⟨w.heap.size, 0, 0⟩, fn, a.tmps, upd_at _ _ _, upd_le _ (h1.fresh _ (Nat.le_refl _)) _ _ (upd_at m σ.nx _), (hR.fr.mono hle1).mono (upd_le _ (h1.fresh _ (Nat.le_refl _))), by
          have := heap_alloc_new (w.alloc (.deferred (some []))) (.loop { state := .ready, pending := none, fn, tmps := a.tmps, params := ps, assign, body, defers := w.heap.size })
          have e : (w.alloc (.deferred (some []))).heap.size = w.heap.size + 1 := World.size_alloc _ _
          rw [e] at this
          exact this⟩
      have hle := hle1.trans h4.le
      have hE := h2.trans h4
      obtain ⟨d, q, args, e1, e2, e3⟩ := rf_call (σ := σ) (a := a) (g := g) (n := n) (Q := Q) hN hS (a' := { a with defers := [{ target := .collected w.heap.size, args := #[] }] ++ a.defers }) hk ⟨h3, hR.fr.mono hle, .cons (h4.le _ _ (upd_at m σ.nx ⟨w.heap.size, 0, 0⟩)) (hR.mks.mono hle)⟩ (hfv.mono hle) (upd_at _ _ _) .out (hU.later hE)
      exact ⟨w.heap.size + 1, _, _, d, _, q, args, _, run_enterLoop_outer fn a.tmps ps assign body, e1, fun _ _ => trivial, e2, fun hd => (by cases hd), e3⟩
  | some l0 =>
    cases hF with
    | @rnd _ z0 hz0 =>
      have hk : ((getLp σ.h l0).map (rfIn P self ps.toList assign body ⟨csz, some l0⟩ σ k f)).getD false = true := hk
      obtain ⟨lp, hl, hk⟩ := map_some (getD_true hk)
      have hk : rfGo P self ⟨csz, some l0⟩ k σ.nx ⟨σ.fr, σ.ds, setLp σ.h σ.nx ⟨σ.fr, csz, ps.toList, assign, body, lp.df, true, .nm⟩, σ.nx + 1⟩ f = true := hk
      have hrel := hR.wr.rel l0
      rw [getLp_some hl] at hrel
      obtain ⟨z', zd, fn', tmps', hz', hzd, hFr', hp⟩ := hrel
      rw [hz0] at hz'; cases hz'
      have hup := upd_le (⟨w.heap.size, 0, 0⟩ : Cz) (hR.wr.fresh _ (Nat.le_refl _))
      obtain ⟨h3, h4⟩ := hR.wr.alloc (.loop { state := .ready, pending := none, fn, tmps := a.tmps, params := ps, assign, body, defers := zd.blk }) (.loop ⟨σ.fr, csz, ps.toList, assign, body, lp.df, true, .nm⟩) ⟨w.heap.size, 0, 0⟩ rfl
        ⟨⟨w.heap.size, 0, 0⟩, zd, fn, a.tmps, upd_at _ _ _, hup _ _ hzd, hR.fr.mono hup, heap_alloc_new w _⟩
      obtain ⟨d, q, args, e1, e2, e3⟩ := rf_call (σ := σ) (a := a) (g := g) (n := n) (Q := Q) hN hS (a' := { a with defers := [] ++ a.defers }) hk ⟨h3, hR.fr.mono h4.le, hR.mks.mono h4.le⟩ (hfv.mono h4.le) (upd_at _ _ _) (.rnd (h4.le _ _ hz0)) (hU.later h4)
      refine ⟨w.heap.size, _, _, d, _, q, args, _, ?_, e1, fun _ _ => trivial, e2, fun hd => (by cases hd), e3⟩
      show (Instr.enterLoop fn a.tmps ps assign body (some z0.blk)).run P w = _
      unfold Instr.enterLoop
      simp only [Sem.run_bind, run_getLoop hp, Result.andThen_ok, Sem.run_pure, run_newObj_alloc, Result.andThen]
end
end Ex
end Go.Proofs.YtojmkniahnkgbaaGreatDoor
