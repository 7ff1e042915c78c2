/-
  The executor: a call met by a run of its own (in pieces), at the state in which it is called, written out.
-/
import Derived.Test.YtajoljoegbeiiaaGreatDoorExW
import Derived.Lib.LaidTab
namespace Go.Proofs.YtajoljoegbeiiaaGreatDoor
set_option linter.all false
namespace Ex
open Go.RowKit
noncomputable section
/-- A call's result, written out. -/
structure LitR where
  v : AV
  hp : List (Nat × AO)
  nx : Nat
def LitR.rs (r : LitR) : Rs := ⟨r.v, hpOf r.hp, r.nx⟩
def rsB (l : LitR) (r : Rs) : Bool := eqV 10 l.v r.v && Nat.beq l.nx r.nx && hpIn r.h l.hp
/-- The call at the written state. -/
def litP (l : Lit) (sz : Nat) (r : LitR) (args : List AV) (h : Hp) (nx : Nat) : Option Rs :=
  bif Nat.beq l.nx nx && Nat.ble (lenL args) sz && litB l sz ⟨treeOf un args 0 .nil, [], h, nx⟩ then some r.rs else none
def orR (a : Option Rs) (b : Option (List Rs)) : Option (List Rs) := match a with
  | some r => some (one r)
  | none => b
def primOr (f : FuncId) (g : List AV → Hp → Nat → Option Rs) (p : Prim) : Prim := fun f' args h nx => bif Nat.beq f' f then orR (g args h nx) (p f' args h nx) else p f' args h nx
end
section
variable {P : Program}
theorem primOk_or {f : FuncId} {g : List AV → Hp → Nat → Option Rs} {p : Prim} (hg : Met P f g) (hp : PrimOk P p) : PrimOk P (primOr f g p) := fun f' args h nx rs hr => by
  unfold primOr at hr
  cases hb : Nat.beq f' f with
  | true =>
    rw [hb] at hr
    have := Nat.eq_of_beq_eq_true hb
    subst this
    cases hgr : g args h nx with
    | some r' =>
      rw [hgr] at hr
      have : [r'] = rs := Option.some.inj hr
      subst this
      exact fun m w Vs hW hv k hk => hg args h nx r' hgr m w Vs hW hv k (hk r' (List.mem_singleton.2 rfl))
    | none =>
      rw [hgr] at hr
      exact hp f' args h nx rs hr
  | false => rw [hb] at hr; exact hp f' args h nx rs hr
theorem met_lit (hN : NoNum P) {f : FuncId} {fn : Func} {c : Code} (hf : P.funcs[f]? = some fn) (hbd : fn.body = some c) {l : Lit} {r : LitR}
    (hk : All P (.code c) ⟨fn.ntmps, none⟩ l.st (leaveX P fn (rsB r)) = true) : Met P f (litP l fn.ntmps r) := by
  intro args h nx r0 hg m w Vs hW hv k hkr o a rd F n next Q hF hnext
  obtain ⟨hl, hg⟩ := cond_some hg
  cases hg
  simp only [Bool.and_eq_true] at hl
  obtain ⟨⟨_, hlen⟩, hl⟩ := hl
  rw [callFunc_enter hN hf hbd, Oper.uponIn_enter]
  refine ⟨fun hd => (by rw [hF.depth] at hd; cases hd), hF.calls ?_⟩
  refine enter_ok all_ok hf hbd (enter_all hlen (all_lit (cx := ⟨fn.ntmps, none⟩) hl hk)) hW hv fun r1 m' w' v h1 h2 h3 h4 => ?_
  unfold rsB at h1
  simp only [Bool.and_eq_true] at h1
  obtain ⟨⟨e1, e2⟩, e3⟩ := h1
  have e1 := eqV_eq _ _ _ e1
  have e2 := nbeq e2
  have e3 := hpIn_sub e3
  have g2 := WR.sub e3 h2
  rw [← e1] at h3
  rw [← e2] at g2
  exact hnext r.rs m' w' v hkr g2 h3 (h4.trans (Evo.sub e3))
/-- A closed run in pieces, the laid variables 'l' in the world. -/
theorem closed_allL {f : FuncId} {fn : Func} {c : Code} (hf : P.funcs[f]? = some fn) (hbd : fn.body = some c) {l : List Gl} {k : Rs → Bool} (hk : All P (.code c) ⟨fn.ntmps, none⟩ ⟨.nil, [], hp0 l, 1000⟩ (leaveX P fn k) = true)
    {w : World} (hl : Laid l w) {R : Ending → World → Prop}
    (hR : ∀ r m' w' v, k r = true → WR P m' r.h r.nx w' → VR m' r.v v → Evo mz0 (hp0 l) w m' r.h w' → R (.returned v) w') : Calls P f #[] w R :=
  callsIn_wide.1 (enter_ok (n := 0) all_ok hf hbd (enter_all (args := []) (h := hp0 l) (nx := 1000) rfl hk) (wr0 mz0_gl mz0_fr l hl) (Vs := #[]) .nil hR)
theorem vrl_ints (m : Mz) (k : IntKind) : ∀ zs : List Int, VRL m (zs.map (AV.int k)) (zs.map (Value.int k))
  | [] => .nil
  | z :: zs => .cons (.int k z) (vrl_ints m k zs)
/-- A table of the library's, laid. -/
theorem laid_tab {w : World} {name : String} {k : IntKind} {zs : List Int} {g : Nat} {t : TypeId} (hT : Lib.TabIs P w name k zs) (hg : P.globalNamed name = some g) (hsh : ∃ cs, w.heap[g]? = some (.cells cs t)) :
    ∃ cs fz, w.heap[g]? = some (.cells cs t fz) ∧ VRL mz0 (zs.map (AV.int k)) cs.toList := by
  obtain ⟨cs, hcs⟩ := hsh
  refine ⟨cs, _, hcs, ?_⟩
  have h : w.var? P name = some (zs.map fun z => Value.int k z).toArray := hT
  unfold World.var? at h
  rw [hg] at h
  simp only [Option.bind_some, hcs, Option.some.injEq] at h
  rw [h]
  exact vrl_ints mz0 k zs
/-- A package variable's block has the variable's type. -/
theorem shaped_at {w : World} (hsh : w.ShapedOpen P) {g : Nat} {t : TypeId} (hlt : g < P.globals.size) (h0 : ((((begin P (fun _ _ => 0) default).world.heap[g]?).bind Obj.row?).map (·.2)) = some t) : ∃ cs, w.heap[g]? = some (.cells cs t) := by
  obtain ⟨⟨zero, t'⟩, h1, h2⟩ := Option.map_eq_some_iff.1 h0
  have h2 : t' = t := h2
  subst h2
  obtain ⟨cs, h3, _⟩ := hsh.1 g zero t' hlt h1
  exact ⟨cs, h3⟩
end
end Ex
end Go.Proofs.YtajoljoegbeiiaaGreatDoor
