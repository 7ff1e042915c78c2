/-
  The executor: functions without arguments, run once for all; functions that hand back their argument.
-/
import Derived.Test.YtajoljoegbeiiaaGreatDoorExS
import Derived.Laws.Externs
import GoSem.Extern.AbiNoEscape
namespace Go.Proofs.YtajoljoegbeiiaaGreatDoor
set_option linter.all false
namespace Ex
open Go.RowKit
noncomputable section
def eqI (x y : AV) : Bool := match x, y with
  | .bool a, .bool b => a == b
  | .int j a, .int k b => sameK j k && eqZ a b
  | .str a, .str b => eqS a b
  | _, _ => false
def eqIs : List AV → List AV → Bool
  | [], [] => true
  | x :: l, y :: l' => bif eqI x y then eqIs l l' else false
  | _, _ => false
def bkIs (l : List AV) (e : TypeId) (k : Bk) : Bool := Nat.beq k.n (lenL l) && Nat.beq k.e e && k.fx && (!k.ro) && Nat.beq k.fz 0 && eqIs (listOf k.d k.t k.n 0) l
def cellsK (l : List AV) (e : TypeId) (r : Rs) : Bool := match r.v with
  | .ptr b o => bif Nat.beq o 0 then ((getBk r.h b).map (bkIs l e)).getD false else false
  | _ => false
def valK (v : AV) (r : Rs) : Bool := eqI r.v v
/-- A function without arguments that hands back a new variable. -/
def cellsP (l : List AV) (e : TypeId) (args : List AV) (h : Hp) (nx : Nat) : Option Rs := bif isNilL args then some ⟨.ptr nx 0, newCells h nx l (lenL l) e true, nx + 1⟩ else none
/-- A function that hands back its argument. -/
def sameP (args : List AV) (h : Hp) (nx : Nat) : Option Rs := match args with
  | [x] => some ⟨x, h, nx⟩
  | _ => none
end
theorem eqI_eq {x y : AV} (h : eqI x y = true) : x = y := by
  cases x <;> cases y <;> first | (cases h; done) | skip
  · have h := eq_of_beq (show ((_ : Bool) == _) = true from h); rw [h]
  · obtain ⟨h1, h2⟩ := Bool.and_eq_true_iff.1 (show (sameK _ _ && eqZ _ _) = true from h)
    have h1 := of_decide_eq_true h1
    rw [eqZ_eq] at h2
    have h2 := eq_of_beq h2
    rw [h1, h2]
  · have h : eqS _ _ = true := h
    rw [eqS_eq] at h
    have h := eq_of_beq h
    rw [h]
theorem eqIs_eq : ∀ {l l' : List AV}, eqIs l l' = true → l = l'
  | [], [], _ => rfl
  | [], _ :: _, h => by cases h
  | _ :: _, [], h => by cases h
  | x :: l, y :: l', h => by
    have h : (bif eqI x y then eqIs l l' else false) = true := h
    cases hx : eqI x y with
    | true => rw [hx] at h; rw [eqI_eq hx, eqIs_eq h]
    | false => rw [hx] at h; cases h
theorem isNilL_nil {α : Type} {l : List α} (h : isNilL l = true) : l = [] := by cases l with | nil => rfl | cons _ _ => cases h
section
variable {P : Program} {prim : Prim}
def mz0 : Mz := fun b => if b < 1000 then some ⟨b, 0, 0⟩ else none
theorem mz0_gl : ∀ g, g < 1000 → mz0 g = some ⟨g, 0, 0⟩ := fun g hg => if_pos hg
theorem mz0_fr : ∀ b, 1000 ≤ b → mz0 b = none := fun b hb => if_neg (by omega)
theorem hp0_ro : ∀ (l : List Gl) (b : Nat), (hp0 l).get .dead b = .dead ∨ ∃ k, (hp0 l).get .dead b = .cells k ∧ k.ro = true
  | [], _ => .inl rfl
  | g :: l, b => by
    rw [hp0_cons, Tr.get_set]
    by_cases hb : b = g.g
    · rw [if_pos hb]; exact .inr ⟨_, rfl, rfl⟩
    · rw [if_neg hb]; exact hp0_ro l b
theorem hp0_owns {m : Mz} {l : List Gl} {j : Nat} : ¬ Owns m (hp0 l) j := by
  rintro ⟨b, z, _, _, ho⟩
  rcases hp0_ro l b with h | ⟨k, h, hr⟩
  · rw [h] at ho; exact ho
  · rw [h] at ho
    have ho : k.ro = false := ho
    rw [hr] at ho; cases ho
/-- Behind a run that began with nothing of its own: what lay there lies as it lay. -/
theorem Evo.below {m m' : Mz} {l : List Gl} {h' : Hp} {w w' : World} (hE : Evo m (hp0 l) w m' h' w') : Below w.heap.size w w' :=
  ⟨hE.os, hE.tape, hE.output, hE.size, fun k hk => hE.keep k hk hp0_owns⟩
/-- A closed run: the laid variables 'l' in the world. -/
theorem closed (hN : NoNum P) (hp : PrimOk P prim) (hmx : P.follows .mixedOrders = true) {n : Nat} {f : FuncId} {l : List Gl} {k : Rs → Bool} (hk : enterO P (run P prim n) [] (hp0 l) 1000 k P.funcs[f]? = true)
    {w : World} (hl : ∀ g ∈ l, g.g < 1000 ∧ ∃ cs fz, w.heap[g.g]? = some (.cells cs g.e fz) ∧ VRL mz0 g.cs cs.toList) {R : Ending → World → Prop}
    (hR : ∀ r m' w' v, k r = true → WR P m' r.h r.nx w' → VR m' r.v v → Evo mz0 (hp0 l) w m' r.h w' → R (.returned v) w') : Calls P f #[] w R :=
  runs hN hp hmx hk (wr0 mz0_gl mz0_fr l hl) (Vs := #[]) .nil hR
/-- The laid variables lie in every world that the executor walks in. -/
def Laid (l : List Gl) (w : World) : Prop := ∀ g ∈ l, g.g < 1000 ∧ ∃ cs fz, w.heap[g.g]? = some (.cells cs g.e fz) ∧ VRL mz0 g.cs cs.toList
theorem laid_nil (w : World) : Laid [] w := fun g hg => by cases hg
theorem nilVs {Vs : Array Value} {m : Mz} (hv : VRL m [] Vs.toList) : Vs = #[] := by
  obtain ⟨L, hL⟩ : ∃ L, Vs.toList = L := ⟨_, rfl⟩
  rw [hL] at hv
  cases hv
  exact Array.toList_inj.1 hL
theorem met_cells (hN : NoNum P) (hp : PrimOk P prim) (hmx : P.follows .mixedOrders = true) {n : Nat} {f : FuncId} {fn : Func} {c : Code} (hf : P.funcs[f]? = some fn) (hbd : fn.body = some c) {l : List AV} (hl : ∀ v ∈ l, ∀ m m' u, VR m v u → VR m' v u) {e : TypeId}
    (hk : enterO P (run P prim n) [] (hp0 []) 1000 (cellsK l e) P.funcs[f]? = true) : Met P f (cellsP l e) := by
  refine met_calls hN hf hbd fun args h nx r hr m w Vs hW hvs => ?_
  obtain ⟨ha, hr⟩ := cond_some hr
  cases hr
  have := isNilL_nil ha
  subst this
  have := nilVs hvs
  subst this
  refine closed hN hp hmx hk (laid_nil w) fun r m' w' u hkr hW' hu hE => ?_
  unfold cellsK at hkr
  split at hkr
  · rename_i b o hrv
    obtain ⟨ho, hkr⟩ : Nat.beq o 0 = true ∧ ((getBk r.h b).map (bkIs l e)).getD false = true := by
      cases hb : Nat.beq o 0 with
      | true => rw [hb] at hkr; exact ⟨rfl, hkr⟩
      | false => rw [hb] at hkr; cases hkr
    have ho := Nat.eq_of_beq_eq_true ho
    subst ho
    obtain ⟨k, hbk, hkr⟩ := map_some (getD_true hkr)
    unfold bkIs at hkr
    simp only [Bool.and_eq_true] at hkr
    obtain ⟨⟨⟨⟨⟨hn, he⟩, hfx⟩, hro⟩, hfz⟩, hls⟩ := hkr
    have hn := Nat.eq_of_beq_eq_true hn
    have he := Nat.eq_of_beq_eq_true he
    have hfz := Nat.eq_of_beq_eq_true hfz
    have hro : k.ro = false := by simpa using hro
    have hls := eqIs_eq hls
    rw [lenL_eq] at hn
    obtain ⟨z, cs, fz, hB⟩ := hW'.bk hbk
    obtain ⟨hsh, hcs⟩ := hB.whole hfx hro
    have hbare := hB.bare hfx hro hfz
    rw [hrv] at hu
    obtain ⟨z', hz', rfl⟩ := hu.ptr_inv
    rw [hB.hm] at hz'; cases hz'
    have hge : w.heap.size ≤ z.blk := by
      rcases Nat.lt_or_ge z.blk w.heap.size with hlt | hge
      · exfalso
        refine hp0_owns (hE.own z.blk hlt ⟨b, z, hB.hm, rfl, ?_⟩)
        rw [getBk_some hbk]; exact hro
      · exact hge
    have hle := upd_le (⟨z.blk, 0, 0⟩ : Cz) (hW.fresh nx (Nat.le_refl _))
    have hex := hB.fx hfx
    have hnew := hW.born hE.below (.cells (newBk l (lenL l) e true)) ⟨z.blk, 0, 0⟩ hge ⟨_, cs, fz, upd_at _ _ _, by rw [← he]; exact hB.hp, by
        show 0 + lenL l + 0 * P.cellsOf e ≤ cs.size
        rw [lenL_eq, Nat.zero_mul]; omega, fun i hi => by
        have hi : i < lenL l := hi
        rw [lenL_eq] at hi
        obtain ⟨u, hu, hvu⟩ := hB.here i (by omega)
        refine ⟨u, by rw [hsh] at hu; exact hu, ?_⟩
        show VR _ ((treeOf un l 0 .nil).get un i) u
        rw [treeOf_get, if_pos (Nat.zero_le _), Nat.sub_zero]
        have hget : l[i]? = some (k.t.get k.d (0 + i)) := by
          rw [← hls, listOf_get _ _ _ _ _ (by omega)]
        rw [Nat.zero_add] at hget
        rw [hget]
        exact hl _ (List.mem_of_getElem? hget) _ _ _ hvu, fun _ => by rw [hbare]; exact fz_none _ _, fun _ => rfl, fun _ _ => ⟨rfl, by show cs.size = lenL l; rw [lenL_eq]; omega⟩, fun _ _ _ => hbare⟩
    refine ⟨_, _, rfl, hnew.1, ?_, hnew.2⟩
    have := VR.ptr (m := upd m nx ⟨z.blk, 0, 0⟩) (b := nx) 0 (upd_at m nx _)
    rw [hsh]; exact this
  · cases hkr
theorem met_same {f : FuncId} {fn : Func} (hf : P.funcs[f]? = some fn) (hname : (fn.name == "runtime.NumGoroutine") = false) (hb : fn.body.isNone = true) (hn : Extern.findNext fn = none) (he : Extern.find fn = some Extern.AbiNoEscape.same) : Met P f sameP := by
  refine met_runs fun args h nx r hr m w Vs hW hv => ?_
  unfold sameP at hr
  split at hr
  · rename_i x
    cases hr
    obtain ⟨A, rfl, hA⟩ : ∃ A, Vs = #[A] ∧ VR m x A := by
      obtain ⟨L, hL⟩ : ∃ L, Vs.toList = L := ⟨_, rfl⟩
      rw [hL] at hv
      cases hv with
      | cons h1 h2 => cases h2 with
        | nil => exact ⟨_, Array.toList_inj.1 hL, h1⟩
    refine ⟨A, w, m, ?_, hW, hA, Evo.refl m h w⟩
    rw [run_callFunc_extern hf hname hb hn he]
    rfl
  · cases hr
theorem int_still (k : IntKind) (z : Int) (m m' : Mz) (u : Value) (h : VR m (.int k z) u) : VR m' (.int k z) u := by cases h; exact .int k z
end
end Ex
end Go.Proofs.YtajoljoegbeiiaaGreatDoor
