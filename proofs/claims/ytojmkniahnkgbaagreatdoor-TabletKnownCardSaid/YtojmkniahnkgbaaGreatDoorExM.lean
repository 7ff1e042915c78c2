/-
  The executor: an operation in its region; regions in their order; ranges over functions.
-/
import Derived.Test.YtojmkniahnkgbaaGreatDoorExL
namespace Go.Proofs.YtojmkniahnkgbaaGreatDoor
set_option linter.all false
namespace Ex
open Go.RowKit
section
variable {P : Program} {prim : Prim} {self : Self} {sz : Nat} {σ : St} {m m' : Mz} {w w' : World} {a : Act} {h : Hp} {nx : Nat}
theorem want_ok {ops : Array Oper} {o : Oper} {fr : Fm} {tmps : Array Value} (hF : FR m fr tmps sz) : Region.wanted o (yielded ops tmps) = wantA ops o fr := by
  unfold Region.wanted wantA
  cases o.guard with
  | none => rfl
  | some g =>
    obtain ⟨j, want⟩ := g
    show (yielded ops tmps j == some want) = wantAt ops fr (j, want)
    unfold yielded wantAt
    cases hd : (ops[j]?).bind (·.dst) with
    | none => simp
    | some d =>
      simp only [Option.bind_some]
      have hs := hF.slot d
      cases ht : tmps[d]? with
      | none =>
        have : tmps.getD d undef = undef := by
          have hge : tmps.size ≤ d := Array.getElem?_eq_none_iff.1 ht
          simp [Array.getD, Nat.not_lt.2 hge]
        rw [this] at hs
        have hu : undef = Value.tuple #[] := rfl
        rw [hu] at hs
        generalize fr.get un d = v at hs
        cases hs
        rfl
      | some u =>
        have : tmps.getD d undef = u := by
          obtain ⟨hlt, he⟩ := Array.getElem?_eq_some_iff.1 ht
          simp [Array.getD, hlt, he]
        rw [this] at hs
        generalize fr.get un d = v at hs
        cases hs <;> rfl
/-- The method that a value's type has. -/
theorem meth_ok (hW : WR P m h nx w) {t : TypeId} {v : AV} {name : String} {mh : Mh} (hm : methA P t v name h = some mh) {V : Value} (hv : VR m v V) (fuel : Nat) : ∃ u, (method (fuel + 1) t V name).run P w = .ok (mh.f, u) w ∧ VR m mh.v u := by
  obtain ⟨me, hme, hm⟩ := bind_some hm
  obtain ⟨i, hi, hfind⟩ := bind_some hme
  obtain ⟨hpath, hm⟩ := cond_some hm
  obtain ⟨fp, hfp, hm⟩ := bind_some hm
  have hpath : me.path = #[] := by simpa using hpath
  have hfind : i.methods.find? (·.name == name) = some me := hfind
  unfold methF at hm
  cases hpd : (P.underlying t).bind ptrD with
  | some e =>
    rw [hpd] at hm
    obtain ⟨u, hu, he⟩ := bind_some hpd
    have he := ptrD_some he
    subst he
    obtain ⟨f, b⟩ := fp
    cases b with
    | true =>
      cases hm
      exact ⟨V, by simp [method, typeInfo, hi, hfind, hpath, follow, hfp, receiverAt, run_underlying hu, Place.get], hv⟩
    | false =>
      obtain ⟨p, hp, hm⟩ := bind_some (show methPtr P f h e v = some mh from hm)
      obtain ⟨x, hx, rfl⟩ := map_some hm
      rw [asP_some hp] at hv
      obtain ⟨z, hz, rfl⟩ := hv.ptr_inv
      obtain ⟨z', u', hz', hrun, hvu⟩ := loadV_ok hW hx
      rw [hz] at hz'; cases hz'
      have hchk : ∀ (q : Addr) (x y : Value), (∃ s, x = .string s) → (∃ s, y = .string s) → Builtin.ssaWrapNilChk_ #[t] t #[.pointer (some q), x, y] = pure (.pointer (some q)) := fun q x y ⟨s, hs⟩ ⟨s', hs'⟩ => by subst hs; subst hs'; rfl
      exact ⟨u', by simp [method, typeInfo, hi, hfind, hpath, follow, hfp, receiverAt, run_underlying hu, Place.get, hchk _ _ _ ⟨_, rfl⟩ ⟨_, rfl⟩, strVal, asAddr, hrun], hvu⟩
  | none =>
    rw [hpd] at hm
    obtain ⟨f, b⟩ := fp
    cases b with
    | true => cases hm
    | false =>
      obtain ⟨u, hu, rfl⟩ := map_some (show ((P.underlying t).map fun _ => (⟨f, v⟩ : Mh)) = some mh from hm)
      refine ⟨V, ?_, hv⟩
      rw [hu] at hpd
      cases u <;> first | (cases hpd; done) | simp [method, typeInfo, hi, hfind, hpath, follow, hfp, receiverAt, run_underlying hu, Place.get]
theorem isCall_some {o : Op} {c : Call} (h : isCall o = some c) : o = .call c := by cases o <;> first | (cases h; rfl) | cases h
/-- One operation in its region. -/
theorem operK_ok (hN : NoNum P) (hp : PrimOk P prim) (hS : SelfOk P self) {o : Oper} {k : St → Bool} (hk : operK P prim self o sz σ k = true) {rd : Option Nat} {F : Fence} {n : Nat} {next : Act → World → Prop} {Q : Exit → Act → World → Prop}
    (hR : Rel P m sz σ w a) (hF : RdR m rd F) (hnext : Next1 P m sz σ.h w k next) : o.uponIn F n P a next Q ((o.semAt F.round a.eval).run P w) := by
  have one : ∀ r, opA o.op P σ.fr σ.h σ.nx = some r → fin sz σ o.dst k r = true → o.uponIn F n P a next Q ((o.semAt F.round a.eval).run P w) := fun r hr hfin => by
    have hnd : ∀ c, o.op ≠ .defer c := fun c hc => by rw [hc] at hr; cases hr
    rw [Oper.semAt_eq _ _ _ hnd]
    obtain ⟨u, w', m', hrun, hW', hv, hE⟩ := opA_ok hR.wr hR.fr hr
    obtain ⟨σ', hk', hR', hE'⟩ := fin_ok hfin hR hE hW' hv
    rcases hrun with hrun | ⟨hrun, rfl⟩
    · rw [hrun, Oper.uponIn_value]; exact hnext σ' m' w' _ hk' hR' hE'
    · rw [hrun, Oper.uponIn_skip]; exact hnext σ' m' w' _ hk' hR' hE'
  have oneO : ∀ x, finO sz σ o.dst k x = true → x = opA o.op P σ.fr σ.h σ.nx → o.uponIn F n P a next Q ((o.semAt F.round a.eval).run P w) := fun x hx he => by
    cases x with
    | none => cases hx
    | some r => exact one r he.symm hx
  unfold operK at hk
  cases hc : isCall o.op with
  | none => rw [hc] at hk; exact oneO _ hk rfl
  | some c =>
    rw [hc] at hk
    have ho := isCall_some hc
    obtain ⟨vs, hvs, hk⟩ := map_some (getD_true hk)
    have hv := evL_ok hR.wr hR.fr hvs
    rw [← Array.toList_map] at hv
    have hsem : o.semAt F.round a.eval = execOp a.eval o := Oper.semAt_eq _ _ _ fun c' hc' => by rw [ho] at hc'; cases hc'
    have after : ∀ {S : Sem Next}, CallOk P m σ.h w (fin sz σ o.dst k) S → o.uponIn F n P a next Q (S.run P w) := fun hS' =>
      hS' o a rd F n next Q hF fun r m' w' v h1 h2 h3 h4 => by
        obtain ⟨σ', hk', hR', hE'⟩ := fin_ok h1 hR h4 h2 h3
        exact hnext σ' m' w' _ hk' hR' hE'
    unfold callWith at hk
    cases hcal : c.callee with
    | builtin b => rw [hcal] at hk; rw [← ho] at hk; exact oneO _ hk rfl
    | value f =>
      rw [hcal] at hk
      have hk : callVal P prim self vs σ (fin sz σ o.dst k) (evA σ.fr f) = true := hk
      cases hfv : evA σ.fr f with
      | none => rw [hfv] at hk; cases hk
      | some fv =>
        rw [hfv] at hk
        have hf := evA_ok hR.wr hR.fr hfv
        have hk : applyK P prim self vs σ.h σ.nx (fin sz σ o.dst k) fv = true := hk
        obtain ⟨FV, hFV⟩ : ∃ FV, a.eval f = FV := ⟨_, rfl⟩
        rw [hFV] at hf
        cases fv with
        | fn g first cap =>
          cases g with
          | func g =>
            have hk : callK P prim self g (cat first (cat vs cap)) σ.h σ.nx (fin sz σ o.dst k) = true := hk
            cases hf with
            | fn _ hfirst hcap =>
              rename_i first' cap'
              have hrun : (execOp a.eval o).run P w = (callFunc g (first' ++ c.args.map a.eval ++ cap')).run P w := by
                simp [execOp, ho, resolve, hcal, hFV, Deferred.ofValue, invoke]
              rw [hsem, hrun]
              refine after (callK_ok hN hp hS hk hR.wr ?_)
              rw [cat_eq, cat_eq, ← List.append_assoc, Array.toList_append, Array.toList_append]
              exact (hfirst.append hv).append hcap
          | _ => cases hk
        | yld l =>
          have hk : roundK self vs σ.h σ.nx (fin sz σ o.dst k) l = true := hk
          cases hf with
          | @yld _ z hz =>
            have hrun : (execOp a.eval o).run P w = (Instr.yield z.blk (c.args.map a.eval)).run P w := by
              simp [execOp, ho, resolve, hcal, hFV, Deferred.ofValue, invoke]
            rw [hsem, hrun]
            exact after (round_ok hS hk hR.wr hz hv)
        | _ => cases hk
    | invoke rc name =>
      rw [hcal] at hk
      have hk : ((evA σ.fr rc).map (callInv P prim self name vs σ (fin sz σ o.dst k))).getD false = true := hk
      obtain ⟨rv, hrv, hk⟩ := map_some (getD_true hk)
      have hr := evA_ok hR.wr hR.fr hrv
      obtain ⟨RV, hRV⟩ : ∃ RV, a.eval rc = RV := ⟨_, rfl⟩
      rw [hRV] at hr
      cases rv with
      | iface t v =>
        have hk : callMh P prim self vs σ (fin sz σ o.dst k) (methA P t v name σ.h) = true := hk
        cases hmh : methA P t v name σ.h with
        | none => rw [hmh] at hk; cases hk
        | some mh =>
          rw [hmh] at hk
          have hk : callK P prim self mh.f (mh.v :: vs) σ.h σ.nx (fin sz σ o.dst k) = true := hk
          cases hr with
          | iface _ hvv =>
            rename_i V
            have hfuel : ∃ d, P.types.size + Made.depth = d + 1 := ⟨P.types.size + Made.depth - 1, by
              obtain ⟨me, hme, _⟩ := bind_some hmh
              obtain ⟨i, hi, _⟩ := bind_some hme
              have : 0 < P.types.size + Made.depth := by
                have : 0 < Made.depth := by decide
                omega
              omega⟩
            obtain ⟨d, hd⟩ := hfuel
            obtain ⟨u, hu, hvu⟩ := meth_ok hR.wr hmh hvv d
            have hrun : (execOp a.eval o).run P w = (callFunc mh.f (#[u] ++ c.args.map a.eval)).run P w := by
              have e0 : (#[Value.iface t V] ++ c.args.map a.eval)[0]? = some (Value.iface t V) := by
                rw [Array.getElem?_append_left (by simp)]; rfl
              have e1 : (#[Value.iface t V] ++ c.args.map a.eval).extract 1 (#[Value.iface t V] ++ c.args.map a.eval).size = c.args.map a.eval := by
                apply Array.ext'
                simp
                exact List.take_of_length_le (by simp)
              have e2 : (execOp a.eval o) = (do
                  let d ← (pure { target := .fn (.method name) #[], args := #[Value.iface t V] ++ c.args.map a.eval } : Sem Deferred)
                  invoke d.target d.args) := by
                simp only [execOp, ho, resolve, hcal, hRV]
              rw [e2]
              simp only [pure_bind, invoke, e0, e1, callMethod, Sem.run_bind, show Sem.run P program w = .ok P w from rfl, Result.andThen_ok, hd, hu]
            rw [hsem, hrun]
            refine after (callK_ok hN hp hS hk hR.wr ?_)
            rw [Array.toList_append]
            exact .cons hvu hv
      | _ => cases hk
/-- An operation, wanted or not. -/
theorem ops1_ok (hN : NoNum P) (hp : PrimOk P prim) (hS : SelfOk P self) {ops : Array Oper} {o : Oper} {k : St → Bool} (hk : ops1 P prim self ops sz o σ k = true) {rd : Option Nat} {F : Fence} {n : Nat} {next : Act → World → Prop} {Q : Exit → Act → World → Prop}
    (hR : Rel P m sz σ w a) (hF : RdR m rd F) (hnext : Next1 P m sz σ.h w k next) :
    if Region.wanted o (yielded ops a.tmps) then o.wpIn F n P a w next Q else (∀ f, o.about P w a.eval = some f → F.fn f) ∧ next (a.put o.dst undef) w := by
  rw [want_ok hR.fr]
  unfold ops1 at hk
  cases hw : wantA ops o σ.fr with
  | true =>
    rw [hw] at hk
    exact ⟨fun f _ => hF.fn f, operK_ok hN hp hS hk hR hF hnext⟩
  | false =>
    rw [hw] at hk
    obtain ⟨σ', hpt, hk⟩ := contO_some (show contO k un (putA σ sz o.dst un) = true from hk)
    obtain ⟨h1, h2, h3, h4, h5⟩ := putA_ok (m := m) (a := a) hpt hR.fr (un_undef m)
    refine ⟨fun f _ => hF.fn f, hnext σ' m w _ hk ⟨by rw [h2, h3]; exact hR.wr, h1, by rw [h4, h5]; exact hR.mks⟩ (by rw [h2]; exact Evo.refl m _ w)⟩
theorem opsK_ok (hN : NoNum P) (hp : PrimOk P prim) (hS : SelfOk P self) {ops : Array Oper} {rd : Option Nat} {F : Fence} {n : Nat} {Q : Exit → Act → World → Prop} : ∀ (l : List Oper) (i : Nat) (σ : St) (m : Mz) (w : World) (a : Act) (k : Kx),
    ops.toList.drop i = l → opsK P prim self ops sz l σ k = true → Rel P m sz σ w a → RdR m rd F → Upon P m sz σ.h w k Q → wpOpsIn F n P ops Q (List.range' i l.length) a w
  | [], i, σ, m, w, a, k, _, hk, hR, hF, hU => hU .nm σ m w a hk hR (Evo.refl m _ w)
  | o :: l, i, σ, m, w, a, k, hl, hk, hR, hF, hU => by
    have hk : ops1 P prim self ops sz o σ (fun σ' => opsK P prim self ops sz l σ' k) = true := hk
    have hi : ops[i]? = some o := by
      rw [← Array.getElem?_toList]
      have : (ops.toList.drop i)[0]? = some o := by rw [hl]; rfl
      rw [List.getElem?_drop, Nat.add_zero] at this; exact this
    have hl' : ops.toList.drop (i + 1) = l := by
      rw [← List.drop_drop, hl]; rfl
    rw [List.length_cons, List.range'_succ]
    simp only [wpOpsIn, hi]
    have := ops1_ok hN hp hS hk (rd := rd) (F := F) (n := n) (next := wpOpsIn F n P ops Q (List.range' (i + 1) l.length)) (Q := Q) hR hF fun σ' m' w' a' hk' hR' hE => opsK_ok hN hp hS l (i + 1) σ' m' w' a' k hl' hk' hR' (hF.mono hE.le) (hU.later hE)
    exact this
theorem c_region (hN : NoNum P) (hp : PrimOk P prim) (hS : SelfOk P self) {cx : Cx} {k : Kx} {id : Nat} {ops : Array Oper} (hk : opsK P prim self ops cx.sz ops.toList σ k = true) : CodeOk P (.region id ops false) cx σ k := fun m w a F Q n hR hF hU => by
  refine wpIn_region ?_
  have := opsK_ok hN hp hS (rd := cx.rd) (F := F) (n := n) (Q := Q) ops.toList 0 σ m w a k rfl hk hR hF hU
  rw [Array.length_toList, ← List.range_eq_range'] at this
  exact this
end
end Ex
end Go.Proofs.YtojmkniahnkgbaaGreatDoor
