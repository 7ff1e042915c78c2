/-
  A range over a function, by the separation logic: the loop's two blocks lie in the list; the iterator may keep cells of its own between rounds (the frame R).
-/
import Derived.Test.YtgccdndlpjbkhaaSl
import Derived.RangeFuncNested
import Derived.OwnWalkIn
namespace Go.Proofs.Ytgccdndlpjbkhaa
open Go.RowKit
section
variable {B w : World} {L : List HP}

theorem Sat.put {b : Nat} {o : Obj} (h : Sat B (pt b o :: L) w) (o' : Obj) : Sat B (pt b o' :: L) (w.putObj b o') := by
  have hlt := h.pt_lt
  refine h.turn rfl rfl rfl (by simp) fun a ha h2 => ⟨fun k => if k = b then some o' else none, by simp [pt], ?_, ?_⟩
  · intro k o'' e
    simp only [] at e
    split at e
    · rename_i hk; subst hk; cases e
      refine ⟨World.putObj_heap_same hlt, .inl ?_⟩
      rw [show a k = _ from ha]; simp
    · cases e
  · intro k hk hak
    refine World.putObj_heap_other ?_
    intro hkb
    rw [show k = b from hkb, show a b = _ from ha] at hak; cases hak

/-- THE ITERATOR's CONTRACT: it yields 'xs', or a first part of it; its own captured blocks 'own'; between rounds it may hold whatever (R). -/
def IterSat {α : Type} (P : Program) (gf : Nat) (lb : Array Value) (encs : α → Array Value) (xs : List α) (B : World) (own : HP) : Prop :=
  ∀ (l : Nat) (M Mx : List α → HP) (L : List HP) (W : World),
    (∀ pre x rest W1 R, xs = pre ++ x :: rest → Sat B (M pre :: R) W1 → YieldAt Fence.wide 1 P l (encs x) W1 fun e W' => (e = .returned (.bool true) ∧ Sat B (M (pre ++ [x]) :: R) W') ∨ (e = .returned (.bool false) ∧ Sat B (Mx (pre ++ [x]) :: R) W')) →
    Sat B (M [] :: own :: L) W →
    CallsIn Fence.wide 2 P gf (#[.func (.yield l) #[] #[]] ++ lb) W fun e W' => (∃ v, e = .returned v) ∧ (Sat B (M xs :: own :: L) W' ∨ ∃ pre rest, xs = pre ++ rest ∧ Sat B (Mx pre :: own :: L) W')

/-- How a round's body may be left. -/
def satPost {α : Type} (B : World) (I : List α → HP) (Ix : Code → List α → HP) (R : List HP) (xs : List α) : Exit → Act → World → Prop
  | .normal, _, W' => Sat B (I xs :: R) W'
  | .ret, _, W' => Sat B (Ix .ret xs :: R) W'
  | .exit id, _, W' => Sat B (Ix (.exit id) xs :: R) W'
  | .goto t, _, W' => Sat B (Ix (.goto t) xs :: R) W'
  | .panic _, _, _ => False
  | .outgrown, _, _ => False

theorem wp_rangeFunc_sat {α : Type} {P : Program} {g : Operand} {ps : Array Tmp} {assign body : Code} {Q : Exit → Act → World → Prop} {a : Act}
    {gf : Nat} {lb : Array Value} (hg : a.eval g = .func (.func gf) #[] lb) (eg : ∀ args w, (callFunc gf args).run P w = .ok (.enter gf args) w)
    {encs : α → Array Value} {xs : List α} {own : HP} (hseq : IterSat P gf lb encs xs B own) (hps : ∀ x, (encs x).size = ps.size)
    (I : List α → HP) (Ix : Code → List α → HP) (h0 : Sat B (I [] :: own :: L) w) (a₁ : α → Act)
    (hassign : ∀ (l : Nat) (x : α) (W : World) (K : Act → World → Prop), K (a₁ x) W →
      assign.wpIn (Fence.wide.inRound l) 1 P (Exit.then K (fun _ _ _ => False)) { tmps := (ps.zip (encs x)).foldl (fun t (p, v) => t.setIfInBounds p v) a.tmps, defers := [] } W)
    (hbody : ∀ (l : Nat) (pre : List α) (x : α) (rest : List α) (W : World) (R : List HP), xs = pre ++ x :: rest → Sat B (I pre :: R) W → body.wpIn (Fence.wide.inRound l) 1 P (satPost B I Ix R (pre ++ [x])) (a₁ x) W)
    (hdone : ∀ (D : Nat) (W : World), Sat B (pt D (.deferred (some [])) :: I xs :: own :: L) W → Q .normal { a with defers := { target := .collected D, args := #[] } :: a.defers } W)
    (hstop : ∀ (D : Nat) (c : Code) (pre rest : List α) (W : World), xs = pre ++ rest → Sat B (pt D (.deferred (some [])) :: Ix c pre :: own :: L) W → c.wp P Q { a with defers := { target := .collected D, args := #[] } :: a.defers } W) :
    (Code.rangeFunc g ps assign body).wp P Q a w := by
  refine (wpIn_wide (n := 3)).1 (wpIn_rangeFunc ?_)
  intro fn hfn
  rw [show Fence.wide.round = none from rfl]
  obtain ⟨rec, hrec⟩ : ∃ rec : LoopState → Option Code → Loop, rec = fun st pe => { state := st, pending := pe, fn, tmps := a.tmps, params := ps, assign, body, defers := w.heap.size } := ⟨_, rfl⟩
  have h1 := (h0.alloc (.deferred (some []))).alloc (.loop (rec .ready none))
  rw [World.size_alloc] at h1
  obtain ⟨W1, hW1⟩ : ∃ W1, (w.alloc (.deferred (some []))).alloc (.loop (rec .ready none)) = W1 := ⟨_, rfl⟩
  rw [hW1] at h1
  obtain ⟨D, hD⟩ : ∃ D, w.heap.size = D := ⟨_, rfl⟩
  rw [hD] at h1
  refine ⟨w.heap.size + 1, [{ target := .collected w.heap.size, args := #[] }], W1, { target := .fn (.func gf) lb, args := #[.func (.yield (w.heap.size + 1)) #[] #[]] }, W1, gf,
    #[.func (.yield (w.heap.size + 1)) #[] #[]] ++ lb, W1, ?_, ?_, ?_, ?_, fun h => by simp [Fence.wide] at h, ?_⟩
  · rw [← hW1, hrec]; exact run_enterLoop_outer _ _ _ _ _
  · simp only [resolve, hg]
    simp [go_sem]
  · intro f' _; trivial
  · simp [invoke, go_sem, eg]
  · rw [hD]
    let M : List α → HP := fun pre => stars [I pre, pt (D + 1) (.loop (rec .ready none)), pt D (.deferred (some []))]
    let Mx : List α → HP := fun pre => ex fun c : Code => stars [Ix c pre, pt (D + 1) (.loop (rec .done (some c))), pt D (.deferred (some []))]
    have hfold : ∀ (A E G : HP) (R : List HP) (W : World), Sat B (A :: E :: G :: R) W → Sat B (stars [A, E, G] :: R) W := fun A E G R W h => Sat.fold (L := [A, E, G]) (M := R) h
    have hflat : ∀ (A E G : HP) (R : List HP) (W : World), Sat B (stars [A, E, G] :: R) W → Sat B (A :: E :: G :: R) W := fun A E G R W h => Sat.flat (L := [A, E, G]) (M := R) h
    refine (hseq (D + 1) M Mx L W1 ?_ (hfold _ _ _ _ _ h1.p2)).mono ?_
    · -- one round
      intro pre x rest W R hx hs
      have hs1 := (hflat _ _ _ _ _ hs).swap
      have hl := hs1.pt_at
      have hy := run_yield (P := P) (args := encs x) hl (by rw [hrec]; exact hps x)
      rw [hrec] at hy
      refine ⟨fn, _, assign, body, hy, roundIn_of_wpIn hfn (hassign _ x W _ ⟨_, run_beginRound hl (by rw [hrec]), ?_⟩)⟩
      have hs2 := (hs1.put (.loop { rec .ready none with state := .busy })).swap
      refine wpIn_mono (hbody _ pre x rest _ _ hx hs2) ?_
      have fin : ∀ (jump : Option Code) (A : HP) (W3 : World), Sat B (A :: pt (D + 1) (.loop { rec .ready none with state := .busy }) :: pt D (.deferred (some [])) :: R) W3 →
          ∃ W4, (Instr.endRound (D + 1) jump).run P W3 = .ok (.bool jump.isNone) W4 ∧ Sat B (stars [A, pt (D + 1) (.loop (rec (if jump.isNone then .ready else .done) jump)), pt D (.deferred (some []))] :: R) W4 := fun jump A W3 h3 => by
        have h4 := run_endRound (P := P) jump h3.swap.pt_at
        refine ⟨_, h4, hfold _ _ _ _ _ (Sat.swap ?_)⟩
        have h5 := h3.swap.put (.loop (rec (if jump.isNone then .ready else .done) jump))
        rw [hrec] at h5 ⊢
        exact h5
      rintro e a3 W3 hp
      cases e with
      | normal =>
        obtain ⟨W4, hr, h4⟩ := fin none _ W3 hp
        exact ⟨_, _, hr, .inl ⟨rfl, h4⟩⟩
      | ret =>
        obtain ⟨W4, hr, h4⟩ := fin (some .ret) _ W3 hp
        exact ⟨_, _, hr, .inr ⟨rfl, Sat.ex_in (P := fun c : Code => stars [Ix c (pre ++ [x]), pt (D + 1) (.loop (rec .done (some c))), pt D (.deferred (some []))]) .ret h4⟩⟩
      | exit id =>
        obtain ⟨W4, hr, h4⟩ := fin (some (.exit id)) _ W3 hp
        exact ⟨_, _, hr, .inr ⟨rfl, Sat.ex_in (P := fun c : Code => stars [Ix c (pre ++ [x]), pt (D + 1) (.loop (rec .done (some c))), pt D (.deferred (some []))]) (.exit id) h4⟩⟩
      | goto t =>
        obtain ⟨W4, hr, h4⟩ := fin (some (.goto t)) _ W3 hp
        exact ⟨_, _, hr, .inr ⟨rfl, Sat.ex_in (P := fun c : Code => stars [Ix c (pre ++ [x]), pt (D + 1) (.loop (rec .done (some c))), pt D (.deferred (some []))]) (.goto t) h4⟩⟩
      | panic ch => exact hp.elim
      | outgrown => exact hp.elim
    · -- behind the iterator
      rintro e W2 ⟨⟨v, rfl⟩, (h | ⟨pre, rest, hx, h⟩)⟩
      · have h2 := hflat _ _ _ _ _ h
        have hl := h2.swap.pt_at
        have hend := run_endLoop (P := P) hl (by rw [hrec]; simp)
        rw [show (rec .ready none).pending = none by rw [hrec]] at hend
        exact ⟨none, _, hend, hdone _ _ (h2.swap.put _).drop.swap⟩
      · obtain ⟨c, h⟩ := Sat.ex_out h
        have h2 := hflat _ _ _ _ _ h
        have hl := h2.swap.pt_at
        have hend := run_endLoop (P := P) hl (by rw [hrec]; simp)
        rw [show (rec .done (some c)).pending = some c by rw [hrec]] at hend
        exact ⟨some c, _, hend, wpIn_wide.2 (hstop _ _ pre rest _ hx (h2.swap.put _).drop.swap)⟩

/-- What the body of a function that holds a range over a function must achieve: no panic. -/
def postM (P : Program) (fn : Func) (R : Ending → World → Prop) : Exit → Act → World → Prop
  | .normal, a, w => LeavesInM Fence.wide 3 P fn a.tmps R a.defers .returning w
  | .ret, a, w => LeavesInM Fence.wide 3 P fn a.tmps R a.defers .returning w
  | .exit _, _, _ => False
  | .goto _, _, _ => False
  | .panic _, _, _ => False
  | .outgrown, _, _ => False
/-- A function that holds a range over a function: its contract from its body (the mark among its deferred calls). -/
theorem calls_of_wp_marks {P : Program} {f : FuncId} {fn : Func} {c : Code} {args : Array Value} {w : World} {R : Ending → World → Prop}
    (hf : P.funcs[f]? = some fn) (hb : fn.body = some c)
    (h : c.wp P (postM P fn R) { tmps := args ++ Array.replicate (fn.ntmps - args.size) undef, defers := [] } w) : Calls P f args w R :=
  callsIn_wide.1 (callsIn_of_wp_marks hf hb trivial (wpIn_wide.2 (wp_mono h fun e a w hq => by
    cases e with
    | normal => exact hq
    | ret => exact hq
    | exit _ => exact hq.elim
    | goto _ => exact hq.elim
    | panic _ => exact hq.elim
    | outgrown => exact hq.elim)))

/-- The marks among the deferred calls, and their blocks. -/
def marks (Ds : List Nat) : List Deferred := Ds.map fun D => { target := .collected D, args := #[] }
def dfs (Ds : List Nat) : HP := stars (Ds.map fun D => pt D (.deferred (some [])))
theorem dfs_nil (h : Sat B L w) : Sat B (dfs [] :: L) w := (Sat.fact_in (p := True) trivial h).head fun _ _ => trivial
theorem dfs_cons {D : Nat} {Ds : List Nat} (h : Sat B (pt D (.deferred (some [])) :: dfs Ds :: L) w) : Sat B (dfs (D :: Ds) :: L) w := by
  have h1 := h.conv fun _ hs => stars_tail (fun _ h => stars_flat (Ds.map fun D => pt D (.deferred (some []))) L _ h) hs
  exact Sat.fold (L := pt D (.deferred (some [])) :: Ds.map fun D => pt D (.deferred (some []))) h1
theorem dfs_uncons {D : Nat} {Ds : List Nat} (h : Sat B (dfs (D :: Ds) :: L) w) : Sat B (pt D (.deferred (some [])) :: dfs Ds :: L) w := by
  have h1 := Sat.flat (L := pt D (.deferred (some [])) :: Ds.map fun D => pt D (.deferred (some []))) h
  exact h1.conv fun _ hs => stars_tail (fun _ h => stars_fold (Ds.map fun D => pt D (.deferred (some []))) L _ h) hs
theorem leaves_marks {P : Program} {fn : Func} {tmps : Array Value} {R : Ending → World → Prop} : ∀ (Ds : List Nat) (w : World), Sat B (dfs Ds :: L) w →
    (∀ w', Sat B L w' → LeavesInM Fence.wide 3 P fn tmps R [] .returning w') → LeavesInM Fence.wide 3 P fn tmps R (marks Ds) .returning w
  | [], _, h, hL => hL _ h.drop
  | _ :: Ds, _, h, hL => by
    have h1 := dfs_uncons h
    exact ⟨by simp, .inl ⟨_, _, rfl, run_takeDeferred h1.pt_at, leaves_marks Ds _ (h1.put (.deferred none)).drop hL⟩⟩
end
#print axioms wp_rangeFunc_sat
end Go.Proofs.Ytgccdndlpjbkhaa
