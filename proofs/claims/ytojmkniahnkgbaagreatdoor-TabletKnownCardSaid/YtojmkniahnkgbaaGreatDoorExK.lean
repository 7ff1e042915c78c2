/-
  The executor: calls, rounds.
-/
import Derived.Test.YtojmkniahnkgbaaGreatDoorExJ
namespace Go.Proofs.YtojmkniahnkgbaaGreatDoor
set_option linter.all false
namespace Ex
open Go.RowKit
theorem fzN_true {n : Nat} {b : Bool} (h : fzN n b = true) : b = true := by
  unfold fzN at h
  rw [show Nat.beq n n = true by rw [beq_eq]; simp] at h
  exact h
theorem fzI_true {z : Int} {b : Bool} (h : fzI z b = true) : b = true := by cases z <;> exact fzN_true h
theorem fz_true {v : AV} {b : Bool} (h : fz v b = true) : b = true := by
  cases v <;> first | exact h | exact fzN_true h | exact fzI_true h | skip
  rename_i c
  cases c <;> exact h
theorem isNode_true {h : Hp} {b : Bool} (hb : isNode h b = true) : b = true := by cases h <;> exact hb
theorem took_true {k : Rs → Bool} {r : Rs} (h : took k r = true) : k r = true := isNode_true (fz_true h)
section
variable {P : Program} {prim : Prim} {self : Self} {sz : Nat} {σ : St} {m m' : Mz} {w w' : World} {a : Act}
theorem FR.put {fr : Fm} {tmps : Array Value} (hF : FR m fr tmps sz) {d : Nat} (hd : d < sz) {v : AV} {u : Value} (hv : VR m v u) : FR m (fr.set un d v) (tmps.setIfInBounds d u) sz := by
  refine ⟨by simp [hF.size], fun t => ?_⟩
  rw [Tr.get_set]
  by_cases ht : t = d
  · subst ht
    rw [if_pos rfl]
    have : t < tmps.size := by rw [hF.size]; exact hd
    simp [Array.getD, this, hv]
  · rw [if_neg ht]
    have := hF.slot t
    have e : (tmps.setIfInBounds d u).getD t undef = tmps.getD t undef := by
      by_cases hlt : t < tmps.size
      · simp [Array.getD, hlt, Array.getElem_setIfInBounds_ne, Ne.symm ht]
      · simp [Array.getD, hlt]
    rw [e]; exact this
/-- What lies in the frame behind an operation. -/
theorem putA_ok {dst : Option Tmp} {v : AV} {σ' : St} (h : putA σ sz dst v = some σ') (hF : FR m σ.fr a.tmps sz) {u : Value} (hv : VR m v u) :
    FR m σ'.fr (a.put dst u).tmps sz ∧ σ'.h = σ.h ∧ σ'.nx = σ.nx ∧ σ'.ds = σ.ds ∧ (a.put dst u).defers = a.defers := by
  cases dst with
  | none => cases h; exact ⟨hF, rfl, rfl, rfl, rfl⟩
  | some d =>
    obtain ⟨hd, h⟩ := cond_some (show (bif Nat.blt d sz then some { σ with fr := σ.fr.set un d v } else none) = some σ' from h)
    cases h
    rw [blt_eq] at hd
    exact ⟨hF.put (of_decide_eq_true hd) hv, rfl, rfl, rfl, rfl⟩
theorem contO_some {k : St → Bool} {v : AV} {s : Option St} (h : contO k v s = true) : ∃ σ', s = some σ' ∧ k σ' = true := by
  cases s with
  | none => cases h
  | some σ' => exact ⟨σ', rfl, fz_true h⟩
/-- Behind an operation that yields. -/
theorem fin_ok {dst : Option Tmp} {k : St → Bool} {r : Rs} (h : fin sz σ dst k r = true) (hR : Rel P m sz σ w a) (hE : Evo m σ.h w m' r.h w') (hW : WR P m' r.h r.nx w') {u : Value} (hv : VR m' r.v u) :
    ∃ σ', k σ' = true ∧ Rel P m' sz σ' w' (a.put dst u) ∧ Evo m σ.h w m' σ'.h w' := by
  obtain ⟨σ', hp, hk⟩ := contO_some h
  obtain ⟨h1, h2, h3, h4, h5⟩ := putA_ok (m := m') (a := a) hp (hR.fr.mono hE.le) hv
  have h2 : σ'.h = r.h := h2
  have h3 : σ'.nx = r.nx := h3
  have h4 : σ'.ds = σ.ds := h4
  exact ⟨σ', hk, ⟨by rw [h2, h3]; exact hW, h1, by rw [h4, h5]; exact hR.mks.mono hE.le⟩, by rw [h2]; exact hE⟩
/-- What comes behind an operation. -/
def Next1 (P : Program) (m : Mz) (sz : Nat) (h : Hp) (w : World) (k : St → Bool) (next : Act → World → Prop) : Prop :=
  ∀ σ' m' w' a', k σ' = true → Rel P m' sz σ' w' a' → Evo m h w m' σ'.h w' → next a' w'
/-- A call: what is done with its result. -/
def CallOk (P : Program) (m : Mz) (h : Hp) (w : World) (k : Rs → Bool) (S : Sem Next) : Prop :=
  ∀ (o : Oper) (a : Act) (rd : Option Nat) (F : Fence) (n : Nat) (next : Act → World → Prop) (Q : Exit → Act → World → Prop), RdR m rd F →
    (∀ r m' w' v, k r = true → WR P m' r.h r.nx w' → VR m' r.v v → Evo m h w m' r.h w' → next (a.put o.dst v) w') → o.uponIn F n P a next Q (S.run P w)
def PrimOk (P : Program) (prim : Prim) : Prop := ∀ (f : FuncId) (args : List AV) (h : Hp) (nx : Nat) (r : Rs), prim f args h nx = some r → ∀ (m : Mz) (w : World) (Vs : Array Value), WR P m h nx w → VRL m args Vs.toList → ∀ k : Rs → Bool, k r = true → CallOk P m h w k (callFunc f Vs)
/-- No function of the program bears the name that the machine answers itself. -/
def NoNum (P : Program) : Prop := ∀ (f : Nat) (fn : Func), P.funcs[f]? = some fn → (fn.name == "runtime.NumGoroutine") = false
theorem callFunc_enter (hN : NoNum P) {f : FuncId} {fn : Func} {c : Code} (hf : P.funcs[f]? = some fn) (hb : fn.body = some c) (Vs : Array Value) (w : World) : (callFunc f Vs).run P w = .ok (.enter f Vs) w := by
  have hn := hN f fn hf
  have hn : fn.name ≠ "runtime.NumGoroutine" := by simpa using hn
  simp [callFunc, hf, hb, hn]
/-! ### Leaving a function -/
theorem take_ok {fn : Func} {tmps : Array Value} {R : Ending → World → Prop} {F : Fence} {n : Nat} {nx : Nat} : ∀ {ds : List Nat} {defers : List Deferred} {h h' : Hp} {w : World}, WR P m h nx w → MR m ds defers → takeDs ds h = some h' →
    (∀ w', WR P m h' nx w' → Evo m h w m h' w' → LeavesInM F n P fn tmps R [] .returning w') → LeavesInM F n P fn tmps R defers .returning w
  | [], _, h, h', w, hW, .nil, ht, hR => by cases ht; exact hR w hW (Evo.refl m h w)
  | d :: ds, _, h, h', w, hW, .cons (z := z) hz hl, ht, hR => by
    obtain ⟨hd, ht⟩ := cond_some (show (bif isDef (h.get .dead d) then takeDs ds (h.set .dead d .dead) else none) = some h' from ht)
    have hob : h.get .dead d = .deferred := by
      cases hx : h.get .dead d <;> rw [hx] at hd <;> first | rfl | cases hd
    have hrel := hW.rel d
    rw [hob] at hrel
    obtain ⟨z', hz', hp⟩ := hrel
    rw [hz] at hz'; cases hz'
    have hlt := (Array.getElem?_eq_some_iff.1 hp).1
    obtain ⟨g1, g2⟩ := hW.obj (w' := w.putObj z.blk (.deferred none)) (b := d) (z := z) (ao' := .dead) (by rw [hob]; rfl) hz (fun j hj => World.putObj_heap_other hj) World.putObj_size rfl rfl rfl rfl trivial
    refine ⟨by simp, .inl ⟨z.blk, _, rfl, run_takeDeferred hp, ?_⟩⟩
    exact take_ok g1 hl ht fun w' h1 h2 => hR w' h1 (g2.trans h2)
theorem resA_ok {h : Hp} {nx : Nat} {fr : Fm} {tmps : Array Value} (hW : WR P m h nx w) (hF : FR m fr tmps sz) {f : ResultVar → Sem Value} (hf1 : ∀ t, f (.tmp t) = pure (tmps.getD t undef)) (hf2 : ∀ a t, f (.cell a t) = do loadVar t (← asAddr (tmps.getD a undef))) :
    ∀ {l : List ResultVar} {vs : List AV}, resA P fr h l = some vs → ∃ us : List Value, (l.mapM f).run P w = .ok us w ∧ VRL m vs us
  | [], vs, h => by cases h; exact ⟨[], by simp, .nil⟩
  | r :: l, vs, h => by
    obtain ⟨y, ys, h1, h2, rfl⟩ := consO_some (show consO (res1 P fr _ r) (resA P fr _ l) = some vs from h)
    obtain ⟨us, h3, h4⟩ := resA_ok hW hF hf1 hf2 h2
    cases r with
    | tmp t =>
      cases h1
      exact ⟨tmps.getD t undef :: us, by simp [List.mapM_cons, hf1, h3], .cons (hF.slot t) h4⟩
    | cell q t =>
      obtain ⟨p, hp, h1⟩ := bind_some (show (asP (fr.get un q)).bind (fun p => loadV P _ t p.b p.o) = some y from h1)
      obtain ⟨z, u, hz, hrun, hv⟩ := loadV_ok hW h1
      have hs := hF.slot q
      rw [asP_some hp] at hs
      obtain ⟨z', hz', hs⟩ := hs.ptr_inv
      rw [hz] at hz'; cases hz'
      exact ⟨u :: us, by simp only [List.mapM_cons, hf2, hs, asAddr, pure_bind, Sem.run_bind, hrun, Result.andThen_ok, h3, Sem.run_pure], .cons hv h4⟩
theorem results_ok {h : Hp} {nx : Nat} {fr : Fm} {tmps : Array Value} (hW : WR P m h nx w) (hF : FR m fr tmps sz) {fn : Func} {vs : List AV} (hr : resA P fr h fn.results.toList = some vs) : ∃ u, (results fn tmps).run P w = .ok u w ∧ VR m (resV vs) u := by
  unfold results
  rw [Array.mapM_eq_mapM_toList]
  obtain ⟨us, h1, h2⟩ := resA_ok hW hF (f := fun x => match x with
    | .tmp t => pure (tmps.getD t undef)
    | .cell a t => do loadVar t (← asAddr (tmps.getD a undef))) (fun _ => rfl) (fun _ _ => rfl) hr
  refine ⟨if h : us.toArray.size = 1 then us.toArray[0] else .tuple us.toArray, ?_, ?_⟩
  · rw [Sem.run_bind, map_eq_pure_bind, Sem.run_bind]
    erw [h1]
    simp
  · cases h2 with
    | nil => exact .tup .nil
    | cons hv hl =>
      cases hl with
      | nil => exact hv
      | cons hv2 hl2 => exact .tup (.cons hv (.cons hv2 hl2))
/-- A function entered. -/
theorem enter_ok (hS : SelfOk P self) {f : FuncId} {fn : Func} {c : Code} (hf : P.funcs[f]? = some fn) (hb : fn.body = some c) {args : List AV} {h : Hp} {nx : Nat} {k : Rs → Bool} (hk : enter P self args h nx k fn c = true)
    (hW : WR P m h nx w) {Vs : Array Value} (hv : VRL m args Vs.toList) {n : Nat} {R : Ending → World → Prop}
    (hR : ∀ r m' w' v, k r = true → WR P m' r.h r.nx w' → VR m' r.v v → Evo m h w m' r.h w' → R (.returned v) w') : CallsIn Fence.wide n P f Vs w R := by
  have hk' : (bif Nat.ble (lenL args) fn.ntmps then self (.code c) ⟨fn.ntmps, none⟩ ⟨treeOf un args 0 .nil, [], h, nx⟩ (leaveX P fn k) else false) = true := hk
  obtain ⟨hle, hk'⟩ : Nat.ble (lenL args) fn.ntmps = true ∧ self (.code c) ⟨fn.ntmps, none⟩ ⟨treeOf un args 0 .nil, [], h, nx⟩ (leaveX P fn k) = true := by
    cases hb : Nat.ble (lenL args) fn.ntmps with
    | true => rw [hb] at hk'; exact ⟨rfl, hk'⟩
    | false => rw [hb] at hk'; cases hk'
  rw [lenL_eq] at hle
  have hle : args.length ≤ fn.ntmps := Nat.le_of_ble_eq_true hle
  have hlen : args.length = Vs.size := (VRL.length hv).trans Array.length_toList
  refine callsIn_of_wp_marks hf hb trivial ?_
  refine hS.code hk' m w _ Fence.wide _ n ⟨hW, ⟨by show (Vs ++ Array.replicate (fn.ntmps - Vs.size) undef).size = fn.ntmps; rw [Array.size_append, Array.size_replicate]; omega, fun t => ?_⟩, .nil⟩ .out ?_
  · show VR m ((treeOf un args 0 .nil).get un t) ((Vs ++ Array.replicate (fn.ntmps - Vs.size) undef).getD t undef)
    rw [treeOf_get, if_pos (Nat.zero_le _), Nat.sub_zero]
    cases ht : args[t]? with
    | some v =>
      obtain ⟨u, hu, hvu⟩ := hv.get t v ht
      rw [Array.getElem?_toList] at hu
      have hlt := (Array.getElem?_eq_some_iff.1 hu).1
      have : (Vs ++ Array.replicate (fn.ntmps - Vs.size) undef).getD t undef = u := by
        rw [← Array.getElem?_eq_some_iff.1 hu |>.2]
        simp [Array.getD, Array.getElem_append_left hlt, show t < Vs.size + (fn.ntmps - Vs.size) by omega]
      rw [this]; exact hvu
    | none =>
      have hge : Vs.size ≤ t := by
        have := List.getElem?_eq_none_iff.1 ht; omega
      have : (Vs ++ Array.replicate (fn.ntmps - Vs.size) undef).getD t undef = undef := by
        unfold Array.getD
        split
        · rename_i hlt
          show (Vs ++ Array.replicate (fn.ntmps - Vs.size) undef)[t] = undef
          rw [Array.getElem_append_right hge]
          simp
        · rfl
      rw [this]; exact un_undef m
  · intro x σ' m' w' a' hx hR' hE
    have leave' : leave P fn k σ' = true → LeavesInM Fence.wide n P fn a'.tmps R a'.defers .returning w' := fun hl => by
      obtain ⟨h2, ht, hl⟩ := map_some (getD_true hl)
      obtain ⟨vs, hvs, hl⟩ := map_some (getD_true (show ((resA P σ'.fr h2 fn.results.toList).map fun vs => k ⟨resV vs, h2, σ'.nx⟩).getD false = true from hl))
      refine take_ok hR'.wr hR'.mks ht fun w'' hW'' hE'' => ?_
      obtain ⟨u, hu, hvu⟩ := results_ok hW'' hR'.fr hvs
      exact ⟨u, hu, hR ⟨resV vs, h2, σ'.nx⟩ m' w'' u hl hW'' hvu (hE.trans hE'')⟩
    cases x with
    | nm => exact leave' hx
    | ret => exact leave' hx
    | ex id => cases hx
    | gt l => cases hx
theorem enterO_some {args : List AV} {h : Hp} {nx : Nat} {k : Rs → Bool} {fn : Option Func} (hk : enterO P self args h nx k fn = true) : ∃ g c, fn = some g ∧ g.body = some c ∧ enter P self args h nx k g c = true := by
  cases fn with
  | none => cases hk
  | some g =>
    have hk : enterF P self args h nx k g = true := hk
    unfold enterF at hk
    split at hk
    · cases hk
    · rename_i c hc
      exact ⟨g, c, rfl, hc, hk⟩
theorem callK_ok (hN : NoNum P) (hp : PrimOk P prim) (hS : SelfOk P self) {f : FuncId} {args : List AV} {h : Hp} {nx : Nat} {k : Rs → Bool} (hk : callK P prim self f args h nx k = true) (hW : WR P m h nx w) {Vs : Array Value} (hv : VRL m args Vs.toList) :
    CallOk P m h w k (callFunc f Vs) := by
  unfold callK at hk
  cases hpr : prim f args h nx with
  | some r =>
    rw [hpr] at hk
    exact hp f args h nx r hpr m w Vs hW hv k (took_true hk)
  | none =>
    rw [hpr] at hk
    obtain ⟨g, c, hf, hb, hk⟩ := enterO_some hk
    intro o a rd F n next Q hF hnext
    rw [callFunc_enter hN hf hb, Oper.uponIn_enter]
    refine ⟨fun hd => (by rw [hF.depth] at hd; cases hd), hF.calls ?_⟩
    exact enter_ok hS hf hb hk hW hv fun r m' w' v h1 h2 h3 h4 => hnext r m' w' v h1 h2 h3 h4
end
end Ex
end Go.Proofs.YtojmkniahnkgbaaGreatDoor
