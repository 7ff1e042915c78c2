/-
  The executor: rounds of ranges over functions; regions.
-/
import Derived.Test.YtojmkniahnkgbaaGreatDoorExK
namespace Go.Proofs.YtojmkniahnkgbaaGreatDoor
set_option linter.all false
namespace Ex
open Go.RowKit
section
variable {P : Program} {prim : Prim} {self : Self} {sz : Nat} {σ : St} {m m' : Mz} {w w' : World} {a : Act} {h : Hp} {nx : Nat}
theorem getLp_some {l : Nat} {lp : Lp} (hl : getLp h l = some lp) : h.get .dead l = .loop lp := by
  unfold getLp lpO at hl
  cases hx : h.get .dead l with
  | loop x => rw [hx] at hl; cases hl; rfl
  | _ => rw [hx] at hl; cases hl
theorem setPs_ok : ∀ {ps : List Nat} {vs : List AV} {us : List Value} {fr fr' : Fm} {tmps : Array Value}, FR m fr tmps sz → VRL m vs us → setPs ps vs sz fr = some fr' → ps.length = us.length ∧ FR m fr' ((ps.zip us).foldl (fun tmps (t, a) => tmps.setIfInBounds t a) tmps) sz
  | [], [], _, fr, fr', tmps, hF, .nil, hs => by cases hs; exact ⟨rfl, hF⟩
  | [], _ :: _, _, fr, fr', tmps, hF, .cons _ _, hs => by cases hs
  | _ :: _, [], _, fr, fr', tmps, hF, .nil, hs => by cases hs
  | p :: ps, v :: vs, _, fr, fr', tmps, hF, .cons (u := u) (us := us) hv hl, hs => by
    obtain ⟨hp, hs⟩ := cond_some (show (bif Nat.blt p sz then setPs ps vs sz (fr.set un p v) else none) = some fr' from hs)
    rw [blt_eq] at hp
    obtain ⟨h1, h2⟩ := setPs_ok (hF.put (of_decide_eq_true hp) hv) hl hs
    exact ⟨by simp [h1], h2⟩
theorem stateOf_busy (rdy : Bool) (x : X) (hx : (rdy || !isNm x) = true) : stateOf rdy x ≠ .busy := by
  unfold stateOf
  cases rdy
  · simp at hx; simp [hx]
  · simp
theorem isNm_some {x : X} (hx : isNm x = true) : x = .nm := by cases x <;> first | rfl | cases hx
theorem jumpOf_none (x : X) : (jumpOf x).isNone = isNm x := by cases x <;> rfl
/-- The record of a loop turned. -/
theorem loop_turn (hW : WR P m h nx w) {l : Nat} {lp lp' : Lp} (hl : getLp h l = some lp) (h1 : lp'.fr = lp.fr) (h2 : lp'.sz = lp.sz) (h3 : lp'.ps = lp.ps) (h4 : lp'.assign = lp.assign) (h5 : lp'.body = lp.body) (h6 : lp'.df = lp.df) :
    ∃ z r, m l = some z ∧ w.heap[z.blk]? = some (.loop r) ∧ r.state = stateOf lp.rdy lp.left ∧ r.pending = jumpOf lp.left ∧
      WR P m (setLp h l lp') nx (w.putObj z.blk (.loop { r with state := stateOf lp'.rdy lp'.left, pending := jumpOf lp'.left })) ∧ Evo m h w m (setLp h l lp') (w.putObj z.blk (.loop { r with state := stateOf lp'.rdy lp'.left, pending := jumpOf lp'.left })) := by
  have hrel := hW.rel l
  rw [getLp_some hl] at hrel
  obtain ⟨z, zd, fn, tmps, hz, hzd, hF, hp⟩ := hrel
  refine ⟨z, _, hz, hp, rfl, rfl, ?_⟩
  have hlt := (Array.getElem?_eq_some_iff.1 hp).1
  refine hW.obj (by rw [getLp_some hl]; rfl) hz (fun j hj => World.putObj_heap_other hj) World.putObj_size rfl rfl rfl rfl ⟨z, zd, fn, tmps, hz, by rw [h6]; exact hzd, by rw [h1, h2]; exact hF, ?_⟩
  rw [World.putObj_heap_same hlt, h3, h4, h5]
theorem round_ok (hS : SelfOk P self) {args : List AV} {k : Rs → Bool} {l : Nat} (hk : roundK self args h nx k l = true) (hW : WR P m h nx w) {z : Cz} (hz : m l = some z) {Vs : Array Value} (hv : VRL m args Vs.toList) :
    CallOk P m h w k (Instr.yield z.blk Vs) := by
  intro o a rd F n next Q hF hnext
  obtain ⟨lp, hl, hk⟩ := map_some (getD_true hk)
  obtain ⟨fr, hfr, hk⟩ := map_some (getD_true (show ((setPs lp.ps args lp.sz lp.fr).map (round2 self h nx k l lp)).getD false = true from hk))
  have hrel := hW.rel l
  rw [getLp_some hl] at hrel
  obtain ⟨z', zd, fn, tmps, hz', hzd, hFr, hp⟩ := hrel
  rw [hz] at hz'; cases hz'
  obtain ⟨hlen, hFr'⟩ := setPs_ok hFr hv hfr
  rw [run_yield hp (by simp; rw [hlen, Array.length_toList])]
  rw [Oper.uponIn_round]
  refine ⟨fun hd => (by rw [hF.depth] at hd; cases hd), hF.round (roundIn_of_wpIn trivial ?_)⟩
  have hk : self (.code lp.assign) ⟨lp.sz, some l⟩ ⟨fr, [], h, nx⟩ (rdAssign self lp.body k l ⟨lp.sz, some l⟩) = true := hk
  have hzip : ((lp.ps.toArray.zip Vs).foldl (fun tmps (t, a) => tmps.setIfInBounds t a) tmps) = ((lp.ps.zip Vs.toList).foldl (fun tmps (t, a) => tmps.setIfInBounds t a) tmps) := by
    rw [← Array.foldl_toList, Array.toList_zip]
  refine hS.code hk m w _ _ _ _ ⟨hW, ?_, .nil⟩ (.rnd hz) ?_
  · show FR m fr ((lp.ps.toArray.zip Vs).foldl _ tmps) lp.sz
    rw [hzip]; exact hFr'
  · intro x σ1 m1 w1 a1 hx hR1 hE1
    cases x with
    | nm =>
      obtain ⟨lp1, hl1, hx⟩ := map_some (getD_true (show ((getLp σ1.h l).map (rdBody2 self lp.body k l ⟨lp.sz, some l⟩ σ1)).getD false = true from hx))
      obtain ⟨hready, hx⟩ : (lp1.rdy && isNm lp1.left) = true ∧ self (.code lp.body) ⟨lp.sz, some l⟩ ⟨σ1.fr, σ1.ds, setLp σ1.h l { lp1 with rdy := false }, σ1.nx⟩ (rdEnd k l) = true := by
        have hx : (bif lp1.rdy && isNm lp1.left then self (.code lp.body) ⟨lp.sz, some l⟩ ⟨σ1.fr, σ1.ds, setLp σ1.h l { lp1 with rdy := false }, σ1.nx⟩ (rdEnd k l) else false) = true := hx
        cases hb : lp1.rdy && isNm lp1.left with
        | true => rw [hb] at hx; exact ⟨rfl, hx⟩
        | false => rw [hb] at hx; cases hx
      obtain ⟨hr1, hr2⟩ := Bool.and_eq_true_iff.1 hready
      have hr2 := isNm_some hr2
      obtain ⟨z1, r1, hz1, hp1, hs1, hpd1, hW2, hE2⟩ := loop_turn hR1.wr hl1 (lp' := { lp1 with rdy := false }) rfl rfl rfl rfl rfl rfl
      have hzz := hE1.le _ _ hz
      rw [hzz] at hz1; cases hz1
      have hst : r1.state = .ready := by rw [hs1, hr1]; rfl
      have hbr := run_beginRound (P := P) hp1 hst
      have hrec : ({ r1 with state := stateOf false lp1.left, pending := jumpOf lp1.left } : Loop) = { r1 with state := .busy } := by
        rw [← hpd1, hr2]; rfl
      have hW2 : WR P m1 (setLp σ1.h l { lp1 with rdy := false }) σ1.nx (w1.putObj z.blk (.loop { r1 with state := .busy })) := by
        have := hW2
        simp only [hrec] at this
        exact this
      have hE2 : Evo m1 σ1.h w1 m1 (setLp σ1.h l { lp1 with rdy := false }) (w1.putObj z.blk (.loop { r1 with state := .busy })) := by
        have := hE2
        simp only [hrec] at this
        exact this
      refine ⟨_, hbr, ?_⟩
      refine hS.code hx m1 _ a1 _ _ _ ⟨hW2, hR1.fr, hR1.mks⟩ (.rnd hzz) ?_
      intro y σ2 m2 w2 a2 hy hR2 hE3
      obtain ⟨lp2, hl2, hy⟩ := map_some (getD_true (show ((getLp σ2.h l).map (rdEnd2 k l y σ2)).getD false = true from hy))
      obtain ⟨hds, hy⟩ : isNilL σ2.ds = true ∧ k ⟨.bool (isNm y), setLp σ2.h l { lp2 with rdy := isNm y, left := y }, σ2.nx⟩ = true := by
        have hy : (bif isNilL σ2.ds then k ⟨.bool (isNm y), setLp σ2.h l { lp2 with rdy := isNm y, left := y }, σ2.nx⟩ else false) = true := hy
        cases hb : isNilL σ2.ds with
        | true => rw [hb] at hy; exact ⟨rfl, hy⟩
        | false => rw [hb] at hy; cases hy
      obtain ⟨z2, r2, hz2, hp2, hs2, hpd2, hW3, hE4⟩ := loop_turn hR2.wr hl2 (lp' := { lp2 with rdy := isNm y, left := y }) rfl rfl rfl rfl rfl rfl
      have hzz2 := hE3.le _ _ hzz
      rw [hzz2] at hz2; cases hz2
      have hend := run_endRound (P := P) (jumpOf y) hp2
      have hst2 : stateOf (isNm y) y = if (jumpOf y).isNone = true then LoopState.ready else .done := by
        rw [jumpOf_none]; unfold stateOf; cases isNm y <;> rfl
      have hfin := hnext ⟨.bool (isNm y), setLp σ2.h l { lp2 with rdy := isNm y, left := y }, σ2.nx⟩ m2 _ (.bool (isNm y)) hy hW3 (.bool _) (((hE1.trans hE2).trans hE3).trans hE4)
      rw [jumpOf_none] at hend
      have hend2 : (Instr.endRound z.blk (jumpOf y)).run P w2 = .ok (.bool (isNm y)) (w2.putObj z.blk (.loop { r2 with state := stateOf (isNm y) y, pending := jumpOf y })) := by
        rw [hend, hst2, jumpOf_none]
      cases y <;> exact ⟨_, _, hend2, hfin⟩
    | ret => cases hx
    | ex id => cases hx
    | gt t => cases hx
end
end Ex
end Go.Proofs.YtojmkniahnkgbaaGreatDoor
