/-
  The executor: every piece of code; a closed run.
-/
import Derived.Test.YtajoljoegbeiiaaGreatDoorExXF
import Derived.Test.YtajoljoegbeiiaaGreatDoorExR
import Derived.Laws.Externs
import Derived.Laws.AppendOwn
namespace Go.Proofs.YtajoljoegbeiiaaGreatDoor
set_option linter.all false
namespace Ex
open Go.RowKit
section
variable {P : Program} {prim : Prim}
theorem stepC_ok (hN : NoNum P) (hp : PrimOk P prim) (hmx : P.follows .mixedOrders = true) {self : Self} (hS : SelfOk P self) (c : Code) {cx : Cx} {σ : St} {k : Kx} (h : stepC c P prim self cx σ k = true) : JobOk P (.code c) cx σ k := by
  cases c with
  | skip => exact ⟨c_skip (self := self) h, fun b hb => by cases hb⟩
  | label l => exact ⟨c_label (self := self) h, fun b hb => by cases hb⟩
  | region id ops draw =>
    cases draw with
    | true => exact ⟨c_draw hN hp hmx hS h, fun b hb => by cases hb⟩
    | false => exact ⟨c_region hN hp hS h, fun b hb => by cases hb⟩
  | seq a b => exact ⟨c_seq hS h, fun b hb => by cases hb⟩
  | cond c a b => exact ⟨c_cond hS h, fun b hb => by cases hb⟩
  | block id b => exact ⟨c_block hS h, fun b hb => by cases hb⟩
  | loop b => exact ⟨c_loop hS h, fun b' hb => by cases hb; exact l_loop hS h⟩
  | exit id => exact ⟨c_exit h, fun b hb => by cases hb⟩
  | scope b => exact ⟨c_scope hS h, fun b hb => by cases hb⟩
  | goto l => exact ⟨c_goto h, fun b hb => by cases hb⟩
  | ret => exact ⟨c_ret h, fun b hb => by cases hb⟩
  | rangeFunc g ps assign body => exact ⟨c_range hN hS h, fun b hb => by cases hb⟩
  | refuse x => cases h
theorem run_ok (hN : NoNum P) (hp : PrimOk P prim) (hmx : P.follows .mixedOrders = true) : ∀ n, SelfOk P (run P prim n)
  | 0 => fun j cx σ k h => by cases h
  | n + 1 => fun j cx σ k h => by
    have h : step j P prim (run P prim n) cx σ k = true := h
    cases j with
    | code c => exact stepC_ok hN hp hmx (run_ok hN hp hmx n) c h
    | scope b c => exact s_scope (run_ok hN hp hmx n) h
/-- A function that the executor runs to its end. -/
theorem runs (hN : NoNum P) (hp : PrimOk P prim) (hmx : P.follows .mixedOrders = true) {n : Nat} {f : FuncId} {args : List AV} {h : Hp} {nx : Nat} {k : Rs → Bool} (hk : enterO P (run P prim n) args h nx k P.funcs[f]? = true)
    {m : Mz} {w : World} (hW : WR P m h nx w) {Vs : Array Value} (hv : VRL m args Vs.toList) {R : Ending → World → Prop}
    (hR : ∀ r m' w' v, k r = true → WR P m' r.h r.nx w' → VR m' r.v v → Evo m h w m' r.h w' → R (.returned v) w') : Calls P f Vs w R := by
  obtain ⟨g, c, hf, hb, hk⟩ := enterO_some hk
  exact callsIn_wide.1 (enter_ok (n := 0) (run_ok hN hp hmx n) hf hb hk hW hv hR)
/-! ### The first world: nothing but the package variables, of which the executor may read some -/
/-- A laid variable: a block that is only read. -/
structure Gl where
  g : Nat
  e : TypeId
  cs : List AV
noncomputable def hp0 (l : List Gl) : Hp := List.rec (motive := fun _ => Hp) .nil (fun g _ ih => ih.set .dead g.g (.cells ⟨treeOf un g.cs 0 .nil, un, lenL g.cs, g.e, true, true, true, [], 0, 0⟩)) l
theorem hp0_cons (g : Gl) (l : List Gl) : hp0 (g :: l) = (hp0 l).set .dead g.g (.cells ⟨treeOf un g.cs 0 .nil, un, lenL g.cs, g.e, true, true, true, [], 0, 0⟩) := rfl
theorem wr0 {m : Mz} {w : World} {nx : Nat} (hgl : ∀ g, g < 1000 → m g = some ⟨g, 0, 0⟩) (hfr : ∀ b, nx ≤ b → m b = none) : ∀ (l : List Gl), (∀ g ∈ l, g.g < 1000 ∧ ∃ cs fz, w.heap[g.g]? = some (.cells cs g.e fz) ∧ VRL m g.cs cs.toList) → WR P m (hp0 l) nx w := by
  intro l hl
  have key : ∀ b, OR P m w b ((hp0 l).get .dead b) ∧ (∀ k, (hp0 l).get .dead b = .cells k → k.ro = true) ∧ ((hp0 l).get .dead b = .dead ∨ ∃ k, (hp0 l).get .dead b = .cells k) := by
    induction l with
    | nil => intro b; exact ⟨trivial, fun k hk => (by cases hk), .inl rfl⟩
    | cons g l ih =>
      intro b
      rw [hp0_cons, Tr.get_set]
      by_cases hb : b = g.g
      · subst hb
        rw [if_pos rfl]
        obtain ⟨hg, cs, fz, hc, hv⟩ := hl g List.mem_cons_self
        have hlen := hv.length
        refine ⟨⟨⟨g.g, 0, 0⟩, cs, fz, hgl _ hg, hc, ?_, fun i hi => ?_, fun h => (by cases h), fun _ => rfl, fun _ h => (by cases h), fun _ h => (by cases h)⟩, fun k hk => (by cases hk; rfl), .inr ⟨_, rfl⟩⟩
        · show 0 + lenL g.cs + 0 * _ ≤ _
          rw [lenL_eq, Nat.zero_mul, ← Array.length_toList]; omega
        · have hi : i < lenL g.cs := hi
          rw [lenL_eq] at hi
          obtain ⟨v, hv1⟩ : ∃ v, g.cs[i]? = some v := ⟨_, List.getElem?_eq_getElem hi⟩
          obtain ⟨u, hu, hvu⟩ := hv.get i v hv1
          refine ⟨u, by rw [Nat.zero_add, ← Array.getElem?_toList]; exact hu, ?_⟩
          show VR _ ((treeOf un g.cs 0 .nil).get un i) u
          rw [treeOf_get, if_pos (Nat.zero_le _), Nat.sub_zero, hv1]
          exact hvu
      · rw [if_neg hb]
        exact ih (fun g hg => hl g (List.mem_cons_of_mem _ hg)) b
  refine ⟨hgl, hfr, fun b => (key b).1, fun b x z zx _ _ _ _ => ?_⟩
  rcases (key b).2.2 with h | ⟨k, h⟩
  · rw [h]; trivial
  · rw [h]
    intro hro
    rw [(key b).2.1 k h] at hro; cases hro
/-! ### What the executor does not look at may come to be -/
theorem WR.below {m : Mz} {h : Hp} {nx : Nat} {w w' : World} (hW : WR P m h nx w) (hb : Below w.heap.size w w') : WR P m h nx w' ∧ Evo m h w m h w' :=
  ⟨⟨hW.gl, hW.fresh, fun b => (hW.rel b).mono (Le.refl m) fun z hz ho => hb.block z.blk (hW.lt ho hz), hW.ap⟩,
   Le.refl m, hb.os, hb.tape, hb.output, hb.size, fun j hj _ => hb.block j hj, fun _ _ h => h, fun _ _ h => h⟩
/-- A new block, that lies anywhere behind the old ones. -/
theorem WR.born {m : Mz} {h : Hp} {nx : Nat} {w w' : World} (hW : WR P m h nx w) (hb : Below w.heap.size w w') (ao : AO) (z : Cz) (hz : w.heap.size ≤ z.blk)
    (hr : OR P (upd m nx z) w' nx ao) : WR P (upd m nx z) (h.set .dead nx ao) (nx + 1) w' ∧ Evo m h w (upd m nx z) (h.set .dead nx ao) w' := by
  have hn := hW.fresh nx (Nat.le_refl _)
  have hle := upd_le z hn
  have hlt : ∀ b z', h.get .dead b ≠ .dead → m b = some z' → z'.blk < w.heap.size := fun b z' hb hm => hW.lt hb hm
  refine ⟨⟨fun g hg => hle _ _ (hW.gl g hg), fun b hb => ?_, fun b => ?_, ?_⟩, hle, hb.os, hb.tape, hb.output, hb.size, fun j hj _ => hb.block j hj, ?_, ?_⟩
  · rw [upd_ne m z (by omega)]; exact hW.fresh b (by omega)
  · rw [Tr.get_set]
    by_cases hbn : b = nx
    · rw [if_pos hbn]; subst hbn; exact hr
    · rw [if_neg hbn]
      exact (hW.rel b).mono hle fun z' hm hd => hb.block _ (hlt b z' hd hm)
  · intro b x zb zx hx hmb hmx hlive
    rw [Tr.get_set] at hlive
    rw [Tr.get_set, Tr.get_set]
    by_cases hbn : b = nx
    · subst hbn
      have hxn : x ≠ b := hx
      rw [if_neg hxn] at hlive
      rw [upd_at] at hmb; cases hmb
      rw [upd_ne m _ hxn] at hmx
      have := hlt x zx hlive hmx
      exact Apart.symm_none (by omega)
    · rw [if_neg hbn]
      rw [upd_ne m z hbn] at hmb
      by_cases hxn : x = nx
      · subst hxn
        rw [upd_at] at hmx; cases hmx
        by_cases hd : h.get .dead b = .dead
        · rw [hd]; trivial
        · have := hlt b zb hd hmb
          exact Apart.symm_none (by omega)
      · rw [if_neg hxn] at hlive ⊢
        rw [upd_ne m z hxn] at hmx
        exact hW.ap b x zb zx hx hmb hmx hlive
  · rintro j hj ⟨b, zb, hmb, hbj, ho⟩
    rw [Tr.get_set] at ho
    by_cases hbn : b = nx
    · subst hbn; rw [upd_at] at hmb; cases hmb; omega
    · rw [if_neg hbn] at ho; rw [upd_ne m z hbn] at hmb
      exact ⟨b, zb, hmb, hbj, ho⟩
  · rintro j hj ⟨b, zb, hmb, hbj, ho⟩
    rw [Tr.get_set] at ho
    by_cases hbn : b = nx
    · subst hbn; rw [upd_at] at hmb; cases hmb; omega
    · rw [if_neg hbn] at ho; rw [upd_ne m z hbn] at hmb
      exact ⟨b, zb, hmb, hbj, ho⟩
/-- A slice that a contract hands back. -/
theorem owned_ok {m : Mz} {h : Hp} {nx : Nat} {w w' : World} (hW : WR P m h nx w) (hb : Below w.heap.size w w') {e : TypeId} (hz : sizeT P e = some 1) {v : Value} {n : Nat} {xs : List Value} (ho : w'.ownsRow w.heap.size e 1 v n xs) (hne : v ≠ .slice none 0 0)
    {l : List AV} (hv : VRL m l xs) : ∃ m', WR P m' (newCells h nx l n e false) (nx + 1) w' ∧ VR m' (.slice nx 0 n n false) v ∧ Evo m h w m' (newCells h nx l n e false) w' := by
  obtain ⟨hlen, ho⟩ := ho
  rcases ho with ⟨rfl, _⟩ | ⟨g, cap, cur, rfl, hg, hcell, hnc, _, hsz, htk⟩
  · exact absurd rfl hne
  have hle := upd_le (⟨g, 0, cap - n⟩ : Cz) (hW.fresh nx (Nat.le_refl _))
  have hll := hv.length
  have hnew := hW.born hb (.cells (newBk l n e false)) ⟨g, 0, cap - n⟩ hg ⟨_, cur, (0, 0), upd_at _ _ _, hcell, by
      show 0 + n + (cap - n) * P.cellsOf e ≤ cur.size
      rw [cellsOf_eq hz]; omega, fun i hi => by
      have hi : i < n := hi
      obtain ⟨v, hv1⟩ : ∃ v, l[i]? = some v := ⟨_, List.getElem?_eq_getElem (by omega)⟩
      obtain ⟨u, hu, hvu⟩ := hv.get i v hv1
      refine ⟨u, ?_, ?_⟩
      · rw [Nat.zero_add, ← Array.getElem?_toList]
        rw [← htk, List.getElem?_take] at hu
        split at hu
        · exact hu
        · cases hu
      · show VR _ ((treeOf un l 0 .nil).get un i) u
        rw [treeOf_get, if_pos (Nat.zero_le _), Nat.sub_zero, hv1]
        exact hvu.mono hle, fun _ => fz_none _ _, fun hc => (by cases hc), fun hc => (by cases hc), fun hc => (by cases hc)⟩
  refine ⟨_, hnew.1, ?_, hnew.2⟩
  have := VR.slice (m := upd m nx ⟨g, 0, cap - n⟩) (b := nx) 0 n n false (upd_at m nx _)
  rw [show (if false = true then n else n + (⟨g, 0, cap - n⟩ : Cz).ext) = cap by simp; omega] at this
  exact this
/-! ### Functions that are met by a contract -/
/-- What a contract of a function with a body says, as the executor asks for it. -/
def Met (P : Program) (f : FuncId) (g : List AV → Hp → Nat → Option Rs) : Prop := ∀ (args : List AV) (h : Hp) (nx : Nat) (r : Rs), g args h nx = some r → ∀ (m : Mz) (w : World) (Vs : Array Value), WR P m h nx w → VRL m args Vs.toList → ∀ k : Rs → Bool, k r = true → CallOk P m h w k (callFunc f Vs)
theorem met_calls (hN : NoNum P) {f : FuncId} {fn : Func} {c : Code} (hf : P.funcs[f]? = some fn) (hbd : fn.body = some c) {g : List AV → Hp → Nat → Option Rs}
    (hc : ∀ (args : List AV) (h : Hp) (nx : Nat) (r : Rs), g args h nx = some r → ∀ (m : Mz) (w : World) (Vs : Array Value), WR P m h nx w → VRL m args Vs.toList → Calls P f Vs w fun e w' => ∃ v m', e = .returned v ∧ WR P m' r.h r.nx w' ∧ VR m' r.v v ∧ Evo m h w m' r.h w') : Met P f g := by
  intro args h nx r hg m w Vs hW hv k hk o a rd F n next Q hF hnext
  rw [callFunc_enter hN hf hbd, Oper.uponIn_enter]
  refine ⟨fun hd => (by rw [hF.depth] at hd; cases hd), hF.calls (CallsIn.mono (callsIn_wide.2 (hc args h nx r hg m w Vs hW hv)) ?_)⟩
  rintro e w' ⟨v, m', rfl, h1, h2, h3⟩
  exact hnext r m' w' v hk h1 h2 h3
theorem met_runs {f : FuncId} {g : List AV → Hp → Nat → Option Rs}
    (hc : ∀ (args : List AV) (h : Hp) (nx : Nat) (r : Rs), g args h nx = some r → ∀ (m : Mz) (w : World) (Vs : Array Value), WR P m h nx w → VRL m args Vs.toList → ∃ v w' m', (callFunc f Vs).run P w = .ok (.value v) w' ∧ WR P m' r.h r.nx w' ∧ VR m' r.v v ∧ Evo m h w m' r.h w') : Met P f g := by
  intro args h nx r hg m w Vs hW hv k hk o a rd F n next Q hF hnext
  obtain ⟨v, w', m', hr, h1, h2, h3⟩ := hc args h nx r hg m w Vs hW hv
  rw [hr, Oper.uponIn_value]
  exact hnext r m' w' v hk h1 h2 h3
def primNone : Prim := fun _ _ _ _ => none
def one (r : Rs) : List Rs := [r]
def primAnd (f : FuncId) (g : List AV → Hp → Nat → Option Rs) (p : Prim) : Prim := fun f' args h nx => bif Nat.beq f' f then (g args h nx).map one else p f' args h nx
theorem one_ok {g : Option Rs} {rs : List Rs} (h : g.map one = some rs) : ∃ r, g = some r ∧ rs = [r] := by
  obtain ⟨r, h1, h2⟩ := map_some h
  exact ⟨r, h1, h2.symm⟩
theorem primOk_none : PrimOk P primNone := fun _ _ _ _ _ h => by cases h
theorem primOk_and {f : FuncId} {g : List AV → Hp → Nat → Option Rs} {p : Prim} (hg : Met P f g) (hp : PrimOk P p) : PrimOk P (primAnd f g p) := fun f' args h nx rs hr => by
  unfold primAnd at hr
  cases hb : Nat.beq f' f with
  | true =>
    rw [hb] at hr
    have := Nat.eq_of_beq_eq_true hb
    subst this
    obtain ⟨r, h1, rfl⟩ := one_ok hr
    exact fun m w Vs hW hv k hk => hg args h nx r h1 m w Vs hW hv k (hk r (List.mem_singleton.2 rfl))
  | false => rw [hb] at hr; exact hp f' args h nx rs hr
end
end Ex
end Go.Proofs.YtajoljoegbeiiaaGreatDoor
