/-
  The executor: what a piece of code's run stands for; the simple pieces. The executor: calls, rounds. The executor: rounds of ranges over functions; regions. The executor: an operation in its region; regions in their order; ranges over functions. The executor: ranges over functions.
-/
import Derived.Test.YtajoljoegbeiiaaGreatDoorExI
import Derived.RangeFuncLeaves
import Derived.Scope
namespace Go.Proofs.YtajoljoegbeiiaaGreatDoor
set_option linter.all false
namespace Ex
open Go.RowKit
def exitOf : X → Exit
  | .nm => .normal
  | .ret => .ret
  | .ex id => .exit id
  | .gt l => .goto l
/-- The marks of the ranges over functions. -/
inductive MR (m : Mz) : List Nat → List Deferred → Prop
  | nil : MR m [] []
  | cons {d : Nat} {z : Cz} {ds : List Nat} {l : List Deferred} (h : m d = some z) (hl : MR m ds l) : MR m (d :: ds) ({ target := .collected z.blk, args := #[] } :: l)
theorem MR.mono {m m' : Mz} (hm : Le m m') {ds : List Nat} {l : List Deferred} (h : MR m ds l) : MR m' ds l := by
  induction h with
  | nil => exact .nil
  | cons h _ ih => exact .cons (hm _ _ h) ih
structure Rel (P : Program) (m : Mz) (sz : Nat) (σ : St) (w : World) (a : Act) : Prop where
  wr : WR P m σ.h σ.nx w
  fr : FR m σ.fr a.tmps sz
  mks : MR m σ.ds a.defers
/-- The fence of a frame: none; or a round's. -/
inductive RdR (m : Mz) : Option Nat → Fence → Prop
  | out : RdR m none Fence.wide
  | rnd {l : Nat} {z : Cz} (h : m l = some z) : RdR m (some l) (Fence.wide.inRound z.blk)
theorem RdR.mono {m m' : Mz} (hm : Le m m') {rd : Option Nat} {F : Fence} (h : RdR m rd F) : RdR m' rd F := by
  cases h with
  | out => exact .out
  | rnd h => exact .rnd (hm _ _ h)
theorem RdR.fn {m : Mz} {rd : Option Nat} {F : Fence} (h : RdR m rd F) (f : FuncId) : F.fn f := by cases h <;> trivial
theorem RdR.depth {m : Mz} {rd : Option Nat} {F : Fence} (h : RdR m rd F) : F.depth = none := by cases h <;> rfl
theorem RdR.room {m : Mz} {rd : Option Nat} {F : Fence} (h : RdR m rd F) (n : Nat) : F.room n := fun d hd => by rw [h.depth] at hd; cases hd
theorem RdR.calls {m : Mz} {rd : Option Nat} {F : Fence} (h : RdR m rd F) {n : Nat} {P : Program} {f : FuncId} {args : Array Value} {w : World} {R : Ending → World → Prop} (hc : CallsIn Fence.wide n P f args w R) : CallsIn F n P f args w R := by
  cases h with
  | out => exact hc
  | rnd h => exact hc
theorem RdR.round {m : Mz} {rd : Option Nat} {F : Fence} (h : RdR m rd F) {n : Nat} {P : Program} {l : Nat} {f : FuncId} {tmps : Array Value} {assign body : Code} {w : World} {R : Ending → World → Prop} (hc : RoundIn Fence.wide n P l f tmps assign body w R) : RoundIn F n P l f tmps assign body w R := by
  cases h with
  | out => exact hc
  | rnd h => exact hc
/-- What comes behind a piece of code. -/
def Upon (P : Program) (m : Mz) (sz : Nat) (h : Hp) (w : World) (k : Kx) (Q : Exit → Act → World → Prop) : Prop :=
  ∀ x σ' m' w' a', k x σ' = true → Rel P m' sz σ' w' a' → Evo m h w m' σ'.h w' → Q (exitOf x) a' w'
def CodeOk (P : Program) (c : Code) (cx : Cx) (σ : St) (k : Kx) : Prop :=
  ∀ (m : Mz) (w : World) (a : Act) (F : Fence) (Q : Exit → Act → World → Prop) (n : Nat), Rel P m cx.sz σ w a → RdR m cx.rd F → Upon P m cx.sz σ.h w k Q → c.wpIn F n P Q a w
/-- A scope under way. -/
def scopeIn (F : Fence) (n : Nat) (P : Program) (body c : Code) (Q : Exit → Act → World → Prop) (a : Act) (w : World) : Prop :=
  ∀ (b : Frame) (k : List Item) (cs : List Frame), b.roundOf = F.round → F.fn b.fn → F.room (cs.length + 1 + n) →
    ∃ e a' w', Q e a' w' ∧ ArrivesIn (Machine.fenced P F) P (lone (b.atR a (.code c :: .inScope body :: k)) cs w) b k cs e a' w'
def ScopeOk (P : Program) (body c : Code) (cx : Cx) (σ : St) (k : Kx) : Prop :=
  ∀ (m : Mz) (w : World) (a : Act) (F : Fence) (Q : Exit → Act → World → Prop) (n : Nat), Rel P m cx.sz σ w a → RdR m cx.rd F → Upon P m cx.sz σ.h w k Q → scopeIn F n P body c Q a w
/-- A loop under way. -/
def loopIn (F : Fence) (n : Nat) (P : Program) (c : Code) (Q : Exit → Act → World → Prop) (a : Act) (w : World) : Prop :=
  ∀ (b : Frame) (k : List Item) (cs : List Frame), b.roundOf = F.round → F.fn b.fn → F.room (cs.length + 1 + n) →
    ∃ e a' w', Q e a' w' ∧ ArrivesIn (Machine.fenced P F) P (lone (b.atR a (.code c :: .inLoop c :: k)) cs w) b k cs e a' w'
def LoopOk (P : Program) (c : Code) (cx : Cx) (σ : St) (k : Kx) : Prop :=
  ∀ (m : Mz) (w : World) (a : Act) (F : Fence) (Q : Exit → Act → World → Prop) (n : Nat), Rel P m cx.sz σ w a → RdR m cx.rd F → Upon P m cx.sz σ.h w k Q → loopIn F n P c Q a w
def JobOk (P : Program) (j : Job) (cx : Cx) (σ : St) (k : Kx) : Prop := match j with
  | .code c => CodeOk P c cx σ k ∧ ∀ b, c = .loop b → LoopOk P b cx σ k
  | .scope b c => ScopeOk P b c cx σ k
def SelfOk (P : Program) (self : Self) : Prop := ∀ (j : Job) (cx : Cx) (σ : St) (k : Kx), self j cx σ k = true → JobOk P j cx σ k
theorem SelfOk.code {P : Program} {self : Self} (hS : SelfOk P self) {c : Code} {cx : Cx} {σ : St} {k : Kx} (h : self (.code c) cx σ k = true) : CodeOk P c cx σ k := (hS (.code c) cx σ k h).1
theorem SelfOk.loop {P : Program} {self : Self} (hS : SelfOk P self) {c : Code} {cx : Cx} {σ : St} {k : Kx} (h : self (.code (.loop c)) cx σ k = true) : LoopOk P c cx σ k := (hS (.code (.loop c)) cx σ k h).2 c rfl
theorem SelfOk.scope {P : Program} {self : Self} (hS : SelfOk P self) {b c : Code} {cx : Cx} {σ : St} {k : Kx} (h : self (.scope b c) cx σ k = true) : ScopeOk P b c cx σ k := hS (.scope b c) cx σ k h
section
variable {P : Program} {self : Self} {cx : Cx} {σ : St} {k : Kx}
theorem Upon.at {m : Mz} {w : World} {a : Act} {Q : Exit → Act → World → Prop} (hU : Upon P m cx.sz σ.h w k Q) {x : X} (hk : k x σ = true) (hR : Rel P m cx.sz σ w a) : Q (exitOf x) a w := hU x σ m w a hk hR (Evo.refl m σ.h w)
theorem Upon.later {m m' : Mz} {w w' : World} {h h' : Hp} {sz : Nat} {Q : Exit → Act → World → Prop} (hU : Upon P m sz h w k Q) (hE : Evo m h w m' h' w') : Upon P m' sz h' w' k Q := fun x σ' m'' w'' a' hk hR hE' => hU x σ' m'' w'' a' hk hR (hE.trans hE')
theorem c_skip (h : sSkip P (fun _ _ _ _ => none) self cx σ k = true) : CodeOk P .skip cx σ k := fun m w a F Q n hR hF hU => wpIn_skip (hU.at (x := .nm) h hR)
theorem c_label {l : Nat} (h : sSkip P (fun _ _ _ _ => none) self cx σ k = true) : CodeOk P (.label l) cx σ k := fun m w a F Q n hR hF hU => wpIn_label (hU.at (x := .nm) h hR)
theorem c_exit {id : Nat} (h : k (.ex id) σ = true) : CodeOk P (.exit id) cx σ k := fun m w a F Q n hR hF hU => wpIn_exit (hU.at (x := .ex id) h hR)
theorem c_goto {l : Nat} (h : k (.gt l) σ = true) : CodeOk P (.goto l) cx σ k := fun m w a F Q n hR hF hU => wpIn_goto (hU.at (x := .gt l) h hR)
theorem c_ret (h : k .ret σ = true) : CodeOk P .ret cx σ k := fun m w a F Q n hR hF hU => wpIn_ret (hU.at (x := .ret) h hR)
theorem c_seq (hS : SelfOk P self) {c d : Code} (h : self (.code c) cx σ (thenX self d cx k) = true) : CodeOk P (.seq c d) cx σ k := fun m w a F Q n hR hF hU => by
  refine wpIn_seq (hS.code h m w a F _ n hR hF fun x σ' m' w' a' hk hR' hE => ?_)
  cases x with
  | nm => exact hS.code (show self (.code d) cx σ' k = true from hk) m' w' a' F Q n hR' (hF.mono hE.le) (hU.later hE)
  | ret => exact hU .ret σ' m' w' a' hk hR' hE
  | ex id => exact hU (.ex id) σ' m' w' a' hk hR' hE
  | gt l => exact hU (.gt l) σ' m' w' a' hk hR' hE
theorem c_cond (hS : SelfOk P self) {c : Operand} {x y : Code} (h : ((evA σ.fr c).map (condB self x y cx σ k)).getD false = true) : CodeOk P (.cond c x y) cx σ k := fun m w a F Q n hR hF hU => by
  obtain ⟨v, hv, hb⟩ := map_some (getD_true h)
  have e := evA_ok hR.wr hR.fr hv
  cases v with
  | bool t =>
    refine wpIn_cond e.bool_inv ?_
    cases t with
    | true => exact hS.code (show self (.code x) cx σ k = true from hb) m w a F Q n hR hF hU
    | false => exact hS.code (show self (.code y) cx σ k = true from hb) m w a F Q n hR hF hU
  | _ => cases hb
theorem c_block (hS : SelfOk P self) {id : Nat} {c : Code} (h : self (.code c) cx σ (blockX id k) = true) : CodeOk P (.block id c) cx σ k := fun m w a F Q n hR hF hU => by
  refine wpIn_block (hS.code h m w a F _ n hR hF fun x σ' m' w' a' hk hR' hE => ?_)
  cases x with
  | nm => exact hU .nm σ' m' w' a' hk hR' hE
  | ret => exact hU .ret σ' m' w' a' hk hR' hE
  | gt l => exact hU (.gt l) σ' m' w' a' hk hR' hE
  | ex i =>
    have hk : (bif Nat.beq i id then k .nm σ' else k (.ex i) σ') = true := hk
    show Exit.inBlock id Q (.exit i) a' w'
    by_cases hi : i = id
    · rw [show Nat.beq i id = true by rw [beq_eq]; exact decide_eq_true hi] at hk
      simp only [Exit.inBlock, hi, if_true]
      exact hU .nm σ' m' w' a' hk hR' hE
    · rw [show Nat.beq i id = false by rw [beq_eq]; exact decide_eq_false hi] at hk
      simp only [Exit.inBlock, hi, if_false]
      exact hU (.ex i) σ' m' w' a' hk hR' hE
/-- One round of a loop, and on. -/
theorem loopIn_turn {F : Fence} {n : Nat} {Q : Exit → Act → World → Prop} {a : Act} {w : World} {c : Code} (h : c.wpIn F n P (Exit.then (loopIn F n P c Q) Q) a w) : loopIn F n P c Q a w := by
  intro b k cs hro hb hr
  obtain ⟨e, a₁, w₁, hq, harr⟩ := h b (.inLoop c :: k) cs hro hb hr
  cases e with
  | normal =>
    obtain ⟨e₂, a₂, w₂, hq₂, harr₂⟩ := hq b k cs hro hb hr
    exact ⟨e₂, a₂, w₂, hq₂, .of_steps (StepsIn.trans harr (.one (fenced_calm hb hr rfl) stepR_inLoop)) harr₂⟩
  | exit id => exact ⟨_, a₁, w₁, hq, .pass (x := .inLoop c) rfl (fun _ _ => .inl (by simp)) harr⟩
  | goto l => exact ⟨_, a₁, w₁, hq, .pass (x := .inLoop c) rfl (fun _ _ => .inl (by simp)) harr⟩
  | ret => exact ⟨_, a₁, w₁, hq, .pass (x := .inLoop c) rfl (fun _ _ => .inl (by simp)) harr⟩
  | panic ch => exact ⟨_, a₁, w₁, hq, .pass (x := .inLoop c) rfl (fun _ _ => .inl (by simp)) harr⟩
  | outgrown => exact ⟨_, a₁, w₁, hq, .pass (x := .inLoop c) rfl (fun _ _ => .inl (by simp)) harr⟩
theorem wpIn_of_loopIn {F : Fence} {n : Nat} {Q : Exit → Act → World → Prop} {a : Act} {w : World} {c : Code} (h : loopIn F n P c Q a w) : (Code.loop c).wpIn F n P Q a w := fun b k cs hro hb hr => by
  obtain ⟨e, a', w', hq, harr⟩ := h b k cs hro hb hr
  exact ⟨e, a', w', hq, .of_steps (.one (fenced_calm hb hr rfl) stepR_loop) harr⟩
theorem l_loop (hS : SelfOk P self) {c : Code} (h : self (.code c) cx σ (thenX self (.loop c) cx k) = true) : LoopOk P c cx σ k := fun m w a F Q n hR hF hU => by
  refine loopIn_turn (hS.code h m w a F _ n hR hF fun x σ' m' w' a' hk hR' hE => ?_)
  cases x with
  | nm => exact hS.loop (show self (.code (.loop c)) cx σ' k = true from hk) m' w' a' F Q n hR' (hF.mono hE.le) (hU.later hE)
  | ret => exact hU .ret σ' m' w' a' hk hR' hE
  | ex id => exact hU (.ex id) σ' m' w' a' hk hR' hE
  | gt l => exact hU (.gt l) σ' m' w' a' hk hR' hE
theorem c_loop (hS : SelfOk P self) {c : Code} (h : self (.code c) cx σ (thenX self (.loop c) cx k) = true) : CodeOk P (.loop c) cx σ k := fun m w a F Q n hR hF hU => wpIn_of_loopIn (l_loop hS h m w a F Q n hR hF hU)
/-! ### Scopes -/
section
variable {b : Frame} {a : Act} {q : List Item} {cs : List Frame} {w : World}
theorem stepR_scope {c : Code} : Go.step P (lone (b.atR a (.code (.scope c) :: q)) cs w) = .next (lone (b.atR a (.code c :: .inScope c :: q)) cs w) :=
  step_lone_go (by simp [stepG, stepG.exec, Frame.atR])
theorem stepR_inScope {c : Code} : Go.step P (lone (b.atR a (.inScope c :: q)) cs w) = .next (lone (b.atR a q) cs w) :=
  step_lone_go (by simp [stepG, stepG.exec, Frame.atR])
end
theorem scopeIn_of {F : Fence} {n : Nat} {Q : Exit → Act → World → Prop} {a : Act} {w : World} {body c : Code}
    (h : c.wpIn F n P (fun e a w => match e with
      | .goto l => (match findLabel body l with
        | some rest => scopeIn F n P body rest Q a w
        | none => Q (.goto l) a w)
      | e => Q e a w) a w) : scopeIn F n P body c Q a w := by
  intro b k cs hro hb hr
  obtain ⟨e, a₁, w₁, hq, harr⟩ := h b (.inScope body :: k) cs hro hb hr
  cases e with
  | normal => exact ⟨.normal, a₁, w₁, hq, StepsIn.trans harr (.one (fenced_calm hb hr rfl) stepR_inScope)⟩
  | exit id =>
    have hx : exitTo id (.inScope body :: k) = exitTo id k := by simp [exitTo]
    exact ⟨_, a₁, w₁, hq, fun k' hk => harr.1 k' (by rw [hx]; exact hk), fun hr' hk => let ⟨k₁, h1, h2⟩ := harr.2 hr' (by rw [hx]; exact hk); ⟨k₁, h1, h2⟩⟩
  | ret => exact ⟨_, a₁, w₁, hq, harr⟩
  | panic ch => exact ⟨_, a₁, w₁, hq, harr⟩
  | outgrown => exact ⟨_, a₁, w₁, hq, harr⟩
  | goto l =>
    cases hf : findLabel body l with
    | some rest =>
      simp only [hf] at hq
      obtain ⟨e₂, a₂, w₂, hq₂, harr₂⟩ := hq b k cs hro hb hr
      exact ⟨e₂, a₂, w₂, hq₂, .of_steps (harr.1 _ (by simp [gotoIn, hf])) harr₂⟩
    | none =>
      simp only [hf] at hq
      have hx : gotoIn l (.inScope body :: k) = gotoIn l k := by simp [gotoIn, hf]
      exact ⟨_, a₁, w₁, hq, fun k' hk => harr.1 k' (by rw [hx]; exact hk), fun hr' hk => let ⟨k₁, h1, h2⟩ := harr.2 hr' (by rw [hx]; exact hk); ⟨k₁, h1, h2⟩⟩
theorem s_scope (hS : SelfOk P self) {body c : Code} (h : self (.code c) cx σ (scopeX self body cx k) = true) : ScopeOk P body c cx σ k := fun m w a F Q n hR hF hU => by
  refine scopeIn_of (hS.code h m w a F _ n hR hF fun x σ' m' w' a' hk hR' hE => ?_)
  cases x with
  | nm => exact hU .nm σ' m' w' a' hk hR' hE
  | ret => exact hU .ret σ' m' w' a' hk hR' hE
  | ex id => exact hU (.ex id) σ' m' w' a' hk hR' hE
  | gt l =>
    have hk : (match findLabel body l with
      | some rest => self (.scope body rest) cx σ' k
      | none => k (.gt l) σ') = true := hk
    show (match findLabel body l with
        | some rest => scopeIn F n P body rest Q a' w'
        | none => Q (.goto l) a' w')
    cases hf : findLabel body l with
    | some rest =>
      simp only [hf] at hk
      exact hS.scope hk m' w' a' F Q n hR' (hF.mono hE.le) (hU.later hE)
    | none =>
      simp only [hf] at hk
      exact hU (.gt l) σ' m' w' a' hk hR' hE
theorem c_scope (hS : SelfOk P self) {c : Code} (h : self (.code c) cx σ (scopeX self c cx k) = true) : CodeOk P (.scope c) cx σ k := fun m w a F Q n hR hF hU b q cs hro hb hr => by
  obtain ⟨e, a', w', hq, harr⟩ := s_scope hS h m w a F Q n hR hF hU b q cs hro hb hr
  exact ⟨e, a', w', hq, .of_steps (.one (fenced_calm hb hr rfl) stepR_scope) harr⟩
end
end Ex
end Go.Proofs.YtajoljoegbeiiaaGreatDoor

namespace Go.Proofs.YtajoljoegbeiiaaGreatDoor
set_option linter.all false
namespace Ex
open Go.RowKit
theorem fzN_true {n : Nat} {b : Bool} (h : fzN n b = true) : b = true := by
  unfold fzN at h
  rw [show Nat.beq n n = true by rw [beq_eq]; simp] at h
  exact h
theorem fzI_true {z : Int} {b : Bool} (h : fzI z b = true) : b = true := by cases z <;> exact fzN_true h
theorem fz_true {v : AV} {b : Bool} (h : fz v b = true) : b = true := by
  cases v <;> first | exact h | exact fzN_true h | exact fzI_true h | skip
  rename_i c
  cases c <;> exact h
theorem isNode_true {h : Hp} {b : Bool} (hb : isNode h b = true) : b = true := by cases h <;> exact hb
theorem took_true {k : Rs → Bool} {r : Rs} (h : took k r = true) : k r = true := isNode_true (fz_true h)
theorem tookL_true {k : Rs → Bool} : ∀ {l : List Rs}, tookL k l = true → ∀ r ∈ l, k r = true
  | [], _, r, hr => by cases hr
  | x :: l, h, r, hr => by
    have h : (bif took k x then tookL k l else false) = true := h
    cases hx : took k x with
    | false => rw [hx] at h; cases h
    | true =>
      rw [hx] at h
      rcases List.mem_cons.1 hr with rfl | hr
      · exact took_true hx
      · exact tookL_true h r hr
section
variable {P : Program} {prim : Prim} {self : Self} {sz : Nat} {σ : St} {m m' : Mz} {w w' : World} {a : Act}
theorem FR.put {fr : Fm} {tmps : Array Value} (hF : FR m fr tmps sz) {d : Nat} (hd : d < sz) {v : AV} {u : Value} (hv : VR m v u) : FR m (fr.set un d v) (tmps.setIfInBounds d u) sz := by
  refine ⟨by simp [hF.size], fun t => ?_⟩
  rw [Tr.get_set]
  by_cases ht : t = d
  · subst ht
    rw [if_pos rfl]
    have : t < tmps.size := by rw [hF.size]; exact hd
    simp [Array.getD, this, hv]
  · rw [if_neg ht]
    have := hF.slot t
    have e : (tmps.setIfInBounds d u).getD t undef = tmps.getD t undef := by
      by_cases hlt : t < tmps.size
      · simp [Array.getD, hlt, Array.getElem_setIfInBounds_ne, Ne.symm ht]
      · simp [Array.getD, hlt]
    rw [e]; exact this
/-- What lies in the frame behind an operation. -/
theorem putA_ok {dst : Option Tmp} {v : AV} {σ' : St} (h : putA σ sz dst v = some σ') (hF : FR m σ.fr a.tmps sz) {u : Value} (hv : VR m v u) :
    FR m σ'.fr (a.put dst u).tmps sz ∧ σ'.h = σ.h ∧ σ'.nx = σ.nx ∧ σ'.ds = σ.ds ∧ (a.put dst u).defers = a.defers := by
  cases dst with
  | none => cases h; exact ⟨hF, rfl, rfl, rfl, rfl⟩
  | some d =>
    obtain ⟨hd, h⟩ := cond_some (show (bif Nat.blt d sz then some { σ with fr := σ.fr.set un d v } else none) = some σ' from h)
    cases h
    rw [blt_eq] at hd
    exact ⟨hF.put (of_decide_eq_true hd) hv, rfl, rfl, rfl, rfl⟩
theorem contO_some {k : St → Bool} {v : AV} {s : Option St} (h : contO k v s = true) : ∃ σ', s = some σ' ∧ k σ' = true := by
  cases s with
  | none => cases h
  | some σ' => exact ⟨σ', rfl, fz_true h⟩
/-- Behind an operation that yields. -/
theorem fin_ok {dst : Option Tmp} {k : St → Bool} {r : Rs} (h : fin sz σ dst k r = true) (hR : Rel P m sz σ w a) (hE : Evo m σ.h w m' r.h w') (hW : WR P m' r.h r.nx w') {u : Value} (hv : VR m' r.v u) :
    ∃ σ', k σ' = true ∧ Rel P m' sz σ' w' (a.put dst u) ∧ Evo m σ.h w m' σ'.h w' := by
  obtain ⟨σ', hp, hk⟩ := contO_some h
  obtain ⟨h1, h2, h3, h4, h5⟩ := putA_ok (m := m') (a := a) hp (hR.fr.mono hE.le) hv
  have h2 : σ'.h = r.h := h2
  have h3 : σ'.nx = r.nx := h3
  have h4 : σ'.ds = σ.ds := h4
  exact ⟨σ', hk, ⟨by rw [h2, h3]; exact hW, h1, by rw [h4, h5]; exact hR.mks.mono hE.le⟩, by rw [h2]; exact hE⟩
/-- What comes behind an operation. -/
def Next1 (P : Program) (m : Mz) (sz : Nat) (h : Hp) (w : World) (k : St → Bool) (next : Act → World → Prop) : Prop :=
  ∀ σ' m' w' a', k σ' = true → Rel P m' sz σ' w' a' → Evo m h w m' σ'.h w' → next a' w'
/-- A call: what is done with its result. -/
def CallOk (P : Program) (m : Mz) (h : Hp) (w : World) (k : Rs → Bool) (S : Sem Next) : Prop :=
  ∀ (o : Oper) (a : Act) (rd : Option Nat) (F : Fence) (n : Nat) (next : Act → World → Prop) (Q : Exit → Act → World → Prop), RdR m rd F →
    (∀ r m' w' v, k r = true → WR P m' r.h r.nx w' → VR m' r.v v → Evo m h w m' r.h w' → next (a.put o.dst v) w') → o.uponIn F n P a next Q (S.run P w)
def PrimOk (P : Program) (prim : Prim) : Prop := ∀ (f : FuncId) (args : List AV) (h : Hp) (nx : Nat) (rs : List Rs), prim f args h nx = some rs → ∀ (m : Mz) (w : World) (Vs : Array Value), WR P m h nx w → VRL m args Vs.toList → ∀ k : Rs → Bool, (∀ r ∈ rs, k r = true) → CallOk P m h w k (callFunc f Vs)
/-- No function of the program bears the name that the machine answers itself. -/
def NoNum (P : Program) : Prop := ∀ (f : Nat) (fn : Func), P.funcs[f]? = some fn → (fn.name == "runtime.NumGoroutine") = false
theorem callFunc_enter (hN : NoNum P) {f : FuncId} {fn : Func} {c : Code} (hf : P.funcs[f]? = some fn) (hb : fn.body = some c) (Vs : Array Value) (w : World) : (callFunc f Vs).run P w = .ok (.enter f Vs) w := by
  have hn := hN f fn hf
  have hn : fn.name ≠ "runtime.NumGoroutine" := by simpa using hn
  simp [callFunc, hf, hb, hn]
/-! ### Leaving a function -/
theorem take_ok {fn : Func} {tmps : Array Value} {R : Ending → World → Prop} {F : Fence} {n : Nat} {nx : Nat} : ∀ {ds : List Nat} {defers : List Deferred} {h h' : Hp} {w : World}, WR P m h nx w → MR m ds defers → takeDs ds h = some h' →
    (∀ w', WR P m h' nx w' → Evo m h w m h' w' → LeavesInM F n P fn tmps R [] .returning w') → LeavesInM F n P fn tmps R defers .returning w
  | [], _, h, h', w, hW, .nil, ht, hR => by cases ht; exact hR w hW (Evo.refl m h w)
  | d :: ds, _, h, h', w, hW, .cons (z := z) hz hl, ht, hR => by
    obtain ⟨hd, ht⟩ := cond_some (show (bif isDef (h.get .dead d) then takeDs ds (h.set .dead d .dead) else none) = some h' from ht)
    have hob : h.get .dead d = .deferred := by
      cases hx : h.get .dead d <;> rw [hx] at hd <;> first | rfl | cases hd
    have hrel := hW.rel d
    rw [hob] at hrel
    obtain ⟨z', hz', hp⟩ := hrel
    rw [hz] at hz'; cases hz'
    have hlt := (Array.getElem?_eq_some_iff.1 hp).1
    obtain ⟨g1, g2⟩ := hW.obj (w' := w.putObj z.blk (.deferred none)) (b := d) (z := z) (ao' := .dead) (by rw [hob]; rfl) hz (fun j hj => World.putObj_heap_other hj) World.putObj_size rfl rfl rfl rfl trivial
    refine ⟨by simp, .inl ⟨z.blk, _, rfl, run_takeDeferred hp, ?_⟩⟩
    exact take_ok g1 hl ht fun w' h1 h2 => hR w' h1 (g2.trans h2)
theorem resA_ok {h : Hp} {nx : Nat} {fr : Fm} {tmps : Array Value} (hW : WR P m h nx w) (hF : FR m fr tmps sz) {f : ResultVar → Sem Value} (hf1 : ∀ t, f (.tmp t) = pure (tmps.getD t undef)) (hf2 : ∀ a t, f (.cell a t) = do loadVar t (← asAddr (tmps.getD a undef))) :
    ∀ {l : List ResultVar} {vs : List AV}, resA P fr h l = some vs → ∃ us : List Value, (l.mapM f).run P w = .ok us w ∧ VRL m vs us
  | [], vs, h => by cases h; exact ⟨[], by simp, .nil⟩
  | r :: l, vs, h => by
    obtain ⟨y, ys, h1, h2, rfl⟩ := consO_some (show consO (res1 P fr _ r) (resA P fr _ l) = some vs from h)
    obtain ⟨us, h3, h4⟩ := resA_ok hW hF hf1 hf2 h2
    cases r with
    | tmp t =>
      cases h1
      exact ⟨tmps.getD t undef :: us, by simp [List.mapM_cons, hf1, h3], .cons (hF.slot t) h4⟩
    | cell q t =>
      obtain ⟨p, hp, h1⟩ := bind_some (show (asP (fr.get un q)).bind (fun p => loadV P _ t p.b p.o) = some y from h1)
      obtain ⟨z, u, hz, hrun, hv⟩ := loadV_ok hW h1
      have hs := hF.slot q
      rw [asP_some hp] at hs
      obtain ⟨z', hz', hs⟩ := hs.ptr_inv
      rw [hz] at hz'; cases hz'
      exact ⟨u :: us, by simp only [List.mapM_cons, hf2, hs, asAddr, pure_bind, Sem.run_bind, hrun, Result.andThen_ok, h3, Sem.run_pure], .cons hv h4⟩
theorem results_ok {h : Hp} {nx : Nat} {fr : Fm} {tmps : Array Value} (hW : WR P m h nx w) (hF : FR m fr tmps sz) {fn : Func} {vs : List AV} (hr : resA P fr h fn.results.toList = some vs) : ∃ u, (results fn tmps).run P w = .ok u w ∧ VR m (resV vs) u := by
  unfold results
  rw [Array.mapM_eq_mapM_toList]
  obtain ⟨us, h1, h2⟩ := resA_ok hW hF (f := fun x => match x with
    | .tmp t => pure (tmps.getD t undef)
    | .cell a t => do loadVar t (← asAddr (tmps.getD a undef))) (fun _ => rfl) (fun _ _ => rfl) hr
  refine ⟨if h : us.toArray.size = 1 then us.toArray[0] else .tuple us.toArray, ?_, ?_⟩
  · rw [Sem.run_bind, map_eq_pure_bind, Sem.run_bind]
    erw [h1]
    simp
  · cases h2 with
    | nil => exact .tup .nil
    | cons hv hl =>
      cases hl with
      | nil => exact hv
      | cons hv2 hl2 => exact .tup (.cons hv (.cons hv2 hl2))
/-- A function entered. -/
theorem enter_ok (hS : SelfOk P self) {f : FuncId} {fn : Func} {c : Code} (hf : P.funcs[f]? = some fn) (hb : fn.body = some c) {args : List AV} {h : Hp} {nx : Nat} {k : Rs → Bool} (hk : enter P self args h nx k fn c = true)
    (hW : WR P m h nx w) {Vs : Array Value} (hv : VRL m args Vs.toList) {n : Nat} {R : Ending → World → Prop}
    (hR : ∀ r m' w' v, k r = true → WR P m' r.h r.nx w' → VR m' r.v v → Evo m h w m' r.h w' → R (.returned v) w') : CallsIn Fence.wide n P f Vs w R := by
  have hk' : (bif Nat.ble (lenL args) fn.ntmps then self (.code c) ⟨fn.ntmps, none⟩ ⟨treeOf un args 0 .nil, [], h, nx⟩ (leaveX P fn k) else false) = true := hk
  obtain ⟨hle, hk'⟩ : Nat.ble (lenL args) fn.ntmps = true ∧ self (.code c) ⟨fn.ntmps, none⟩ ⟨treeOf un args 0 .nil, [], h, nx⟩ (leaveX P fn k) = true := by
    cases hb : Nat.ble (lenL args) fn.ntmps with
    | true => rw [hb] at hk'; exact ⟨rfl, hk'⟩
    | false => rw [hb] at hk'; cases hk'
  rw [lenL_eq] at hle
  have hle : args.length ≤ fn.ntmps := Nat.le_of_ble_eq_true hle
  have hlen : args.length = Vs.size := (VRL.length hv).trans Array.length_toList
  refine callsIn_of_wp_marks hf hb trivial ?_
  refine hS.code hk' m w _ Fence.wide _ n ⟨hW, ⟨by show (Vs ++ Array.replicate (fn.ntmps - Vs.size) undef).size = fn.ntmps; rw [Array.size_append, Array.size_replicate]; omega, fun t => ?_⟩, .nil⟩ .out ?_
  · show VR m ((treeOf un args 0 .nil).get un t) ((Vs ++ Array.replicate (fn.ntmps - Vs.size) undef).getD t undef)
    rw [treeOf_get, if_pos (Nat.zero_le _), Nat.sub_zero]
    cases ht : args[t]? with
    | some v =>
      obtain ⟨u, hu, hvu⟩ := hv.get t v ht
      rw [Array.getElem?_toList] at hu
      have hlt := (Array.getElem?_eq_some_iff.1 hu).1
      have : (Vs ++ Array.replicate (fn.ntmps - Vs.size) undef).getD t undef = u := by
        rw [← Array.getElem?_eq_some_iff.1 hu |>.2]
        simp [Array.getD, Array.getElem_append_left hlt, show t < Vs.size + (fn.ntmps - Vs.size) by omega]
      rw [this]; exact hvu
    | none =>
      have hge : Vs.size ≤ t := by
        have := List.getElem?_eq_none_iff.1 ht; omega
      have : (Vs ++ Array.replicate (fn.ntmps - Vs.size) undef).getD t undef = undef := by
        unfold Array.getD
        split
        · rename_i hlt
          show (Vs ++ Array.replicate (fn.ntmps - Vs.size) undef)[t] = undef
          rw [Array.getElem_append_right hge]
          simp
        · rfl
      rw [this]; exact un_undef m
  · intro x σ' m' w' a' hx hR' hE
    have leave' : leave P fn k σ' = true → LeavesInM Fence.wide n P fn a'.tmps R a'.defers .returning w' := fun hl => by
      obtain ⟨h2, ht, hl⟩ := map_some (getD_true hl)
      obtain ⟨vs, hvs, hl⟩ := map_some (getD_true (show ((resA P σ'.fr h2 fn.results.toList).map fun vs => k ⟨resV vs, h2, σ'.nx⟩).getD false = true from hl))
      refine take_ok hR'.wr hR'.mks ht fun w'' hW'' hE'' => ?_
      obtain ⟨u, hu, hvu⟩ := results_ok hW'' hR'.fr hvs
      exact ⟨u, hu, hR ⟨resV vs, h2, σ'.nx⟩ m' w'' u hl hW'' hvu (hE.trans hE'')⟩
    cases x with
    | nm => exact leave' hx
    | ret => exact leave' hx
    | ex id => cases hx
    | gt l => cases hx
theorem enterO_some {args : List AV} {h : Hp} {nx : Nat} {k : Rs → Bool} {fn : Option Func} (hk : enterO P self args h nx k fn = true) : ∃ g c, fn = some g ∧ g.body = some c ∧ enter P self args h nx k g c = true := by
  cases fn with
  | none => cases hk
  | some g =>
    have hk : enterF P self args h nx k g = true := hk
    unfold enterF at hk
    split at hk
    · cases hk
    · rename_i c hc
      exact ⟨g, c, rfl, hc, hk⟩
theorem callK_ok (hN : NoNum P) (hp : PrimOk P prim) (hS : SelfOk P self) {f : FuncId} {args : List AV} {h : Hp} {nx : Nat} {k : Rs → Bool} (hk : callK P prim self f args h nx k = true) (hW : WR P m h nx w) {Vs : Array Value} (hv : VRL m args Vs.toList) :
    CallOk P m h w k (callFunc f Vs) := by
  unfold callK at hk
  cases hpr : prim f args h nx with
  | some r =>
    rw [hpr] at hk
    exact hp f args h nx r hpr m w Vs hW hv k (tookL_true hk)
  | none =>
    rw [hpr] at hk
    obtain ⟨g, c, hf, hb, hk⟩ := enterO_some hk
    intro o a rd F n next Q hF hnext
    rw [callFunc_enter hN hf hb, Oper.uponIn_enter]
    refine ⟨fun hd => (by rw [hF.depth] at hd; cases hd), hF.calls ?_⟩
    exact enter_ok hS hf hb hk hW hv fun r m' w' v h1 h2 h3 h4 => hnext r m' w' v h1 h2 h3 h4
end
end Ex
end Go.Proofs.YtajoljoegbeiiaaGreatDoor

namespace Go.Proofs.YtajoljoegbeiiaaGreatDoor
set_option linter.all false
namespace Ex
open Go.RowKit
section
variable {P : Program} {prim : Prim} {self : Self} {sz : Nat} {σ : St} {m m' : Mz} {w w' : World} {a : Act} {h : Hp} {nx : Nat}
theorem getLp_some {l : Nat} {lp : Lp} (hl : getLp h l = some lp) : h.get .dead l = .loop lp := by
  unfold getLp lpO at hl
  cases hx : h.get .dead l with
  | loop x => rw [hx] at hl; cases hl; rfl
  | _ => rw [hx] at hl; cases hl
theorem setPs_ok : ∀ {ps : List Nat} {vs : List AV} {us : List Value} {fr fr' : Fm} {tmps : Array Value}, FR m fr tmps sz → VRL m vs us → setPs ps vs sz fr = some fr' → ps.length = us.length ∧ FR m fr' ((ps.zip us).foldl (fun tmps (t, a) => tmps.setIfInBounds t a) tmps) sz
  | [], [], _, fr, fr', tmps, hF, .nil, hs => by cases hs; exact ⟨rfl, hF⟩
  | [], _ :: _, _, fr, fr', tmps, hF, .cons _ _, hs => by cases hs
  | _ :: _, [], _, fr, fr', tmps, hF, .nil, hs => by cases hs
  | p :: ps, v :: vs, _, fr, fr', tmps, hF, .cons (u := u) (us := us) hv hl, hs => by
    obtain ⟨hp, hs⟩ := cond_some (show (bif Nat.blt p sz then setPs ps vs sz (fr.set un p v) else none) = some fr' from hs)
    rw [blt_eq] at hp
    obtain ⟨h1, h2⟩ := setPs_ok (hF.put (of_decide_eq_true hp) hv) hl hs
    exact ⟨by simp [h1], h2⟩
theorem stateOf_busy (rdy : Bool) (x : X) (hx : (rdy || !isNm x) = true) : stateOf rdy x ≠ .busy := by
  unfold stateOf
  cases rdy
  · simp at hx; simp [hx]
  · simp
theorem isNm_some {x : X} (hx : isNm x = true) : x = .nm := by cases x <;> first | rfl | cases hx
theorem jumpOf_none (x : X) : (jumpOf x).isNone = isNm x := by cases x <;> rfl
/-- The record of a loop turned. -/
theorem loop_turn (hW : WR P m h nx w) {l : Nat} {lp lp' : Lp} (hl : getLp h l = some lp) (h1 : lp'.fr = lp.fr) (h2 : lp'.sz = lp.sz) (h3 : lp'.ps = lp.ps) (h4 : lp'.assign = lp.assign) (h5 : lp'.body = lp.body) (h6 : lp'.df = lp.df) :
    ∃ z r, m l = some z ∧ w.heap[z.blk]? = some (.loop r) ∧ r.state = stateOf lp.rdy lp.left ∧ r.pending = jumpOf lp.left ∧
      WR P m (setLp h l lp') nx (w.putObj z.blk (.loop { r with state := stateOf lp'.rdy lp'.left, pending := jumpOf lp'.left })) ∧ Evo m h w m (setLp h l lp') (w.putObj z.blk (.loop { r with state := stateOf lp'.rdy lp'.left, pending := jumpOf lp'.left })) := by
  have hrel := hW.rel l
  rw [getLp_some hl] at hrel
  obtain ⟨z, zd, fn, tmps, hz, hzd, hF, hp⟩ := hrel
  refine ⟨z, _, hz, hp, rfl, rfl, ?_⟩
  have hlt := (Array.getElem?_eq_some_iff.1 hp).1
  refine hW.obj (by rw [getLp_some hl]; rfl) hz (fun j hj => World.putObj_heap_other hj) World.putObj_size rfl rfl rfl rfl ⟨z, zd, fn, tmps, hz, by rw [h6]; exact hzd, by rw [h1, h2]; exact hF, ?_⟩
  rw [World.putObj_heap_same hlt, h3, h4, h5]
theorem round_ok (hS : SelfOk P self) {args : List AV} {k : Rs → Bool} {l : Nat} (hk : roundK self args h nx k l = true) (hW : WR P m h nx w) {z : Cz} (hz : m l = some z) {Vs : Array Value} (hv : VRL m args Vs.toList) :
    CallOk P m h w k (Instr.yield z.blk Vs) := by
  intro o a rd F n next Q hF hnext
  obtain ⟨lp, hl, hk⟩ := map_some (getD_true hk)
  obtain ⟨fr, hfr, hk⟩ := map_some (getD_true (show ((setPs lp.ps args lp.sz lp.fr).map (round2 self h nx k l lp)).getD false = true from hk))
  have hrel := hW.rel l
  rw [getLp_some hl] at hrel
  obtain ⟨z', zd, fn, tmps, hz', hzd, hFr, hp⟩ := hrel
  rw [hz] at hz'; cases hz'
  obtain ⟨hlen, hFr'⟩ := setPs_ok hFr hv hfr
  rw [run_yield hp (by simp; rw [hlen, Array.length_toList])]
  rw [Oper.uponIn_round]
  refine ⟨fun hd => (by rw [hF.depth] at hd; cases hd), hF.round (roundIn_of_wpIn trivial ?_)⟩
  have hk : self (.code lp.assign) ⟨lp.sz, some l⟩ ⟨fr, [], h, nx⟩ (rdAssign self lp.body k l ⟨lp.sz, some l⟩) = true := hk
  have hzip : ((lp.ps.toArray.zip Vs).foldl (fun tmps (t, a) => tmps.setIfInBounds t a) tmps) = ((lp.ps.zip Vs.toList).foldl (fun tmps (t, a) => tmps.setIfInBounds t a) tmps) := by
    rw [← Array.foldl_toList, Array.toList_zip]
  refine hS.code hk m w _ _ _ _ ⟨hW, ?_, .nil⟩ (.rnd hz) ?_
  · show FR m fr ((lp.ps.toArray.zip Vs).foldl _ tmps) lp.sz
    rw [hzip]; exact hFr'
  · intro x σ1 m1 w1 a1 hx hR1 hE1
    cases x with
    | nm =>
      obtain ⟨lp1, hl1, hx⟩ := map_some (getD_true (show ((getLp σ1.h l).map (rdBody2 self lp.body k l ⟨lp.sz, some l⟩ σ1)).getD false = true from hx))
      obtain ⟨hready, hx⟩ : (lp1.rdy && isNm lp1.left) = true ∧ self (.code lp.body) ⟨lp.sz, some l⟩ ⟨σ1.fr, σ1.ds, setLp σ1.h l { lp1 with rdy := false }, σ1.nx⟩ (rdEnd k l) = true := by
        have hx : (bif lp1.rdy && isNm lp1.left then self (.code lp.body) ⟨lp.sz, some l⟩ ⟨σ1.fr, σ1.ds, setLp σ1.h l { lp1 with rdy := false }, σ1.nx⟩ (rdEnd k l) else false) = true := hx
        cases hb : lp1.rdy && isNm lp1.left with
        | true => rw [hb] at hx; exact ⟨rfl, hx⟩
        | false => rw [hb] at hx; cases hx
      obtain ⟨hr1, hr2⟩ := Bool.and_eq_true_iff.1 hready
      have hr2 := isNm_some hr2
      obtain ⟨z1, r1, hz1, hp1, hs1, hpd1, hW2, hE2⟩ := loop_turn hR1.wr hl1 (lp' := { lp1 with rdy := false }) rfl rfl rfl rfl rfl rfl
      have hzz := hE1.le _ _ hz
      rw [hzz] at hz1; cases hz1
      have hst : r1.state = .ready := by rw [hs1, hr1]; rfl
      have hbr := run_beginRound (P := P) hp1 hst
      have hrec : ({ r1 with state := stateOf false lp1.left, pending := jumpOf lp1.left } : Loop) = { r1 with state := .busy } := by
        rw [← hpd1, hr2]; rfl
      have hW2 : WR P m1 (setLp σ1.h l { lp1 with rdy := false }) σ1.nx (w1.putObj z.blk (.loop { r1 with state := .busy })) := by
        have := hW2
        simp only [hrec] at this
        exact this
      have hE2 : Evo m1 σ1.h w1 m1 (setLp σ1.h l { lp1 with rdy := false }) (w1.putObj z.blk (.loop { r1 with state := .busy })) := by
        have := hE2
        simp only [hrec] at this
        exact this
      refine ⟨_, hbr, ?_⟩
      refine hS.code hx m1 _ a1 _ _ _ ⟨hW2, hR1.fr, hR1.mks⟩ (.rnd hzz) ?_
      intro y σ2 m2 w2 a2 hy hR2 hE3
      obtain ⟨lp2, hl2, hy⟩ := map_some (getD_true (show ((getLp σ2.h l).map (rdEnd2 k l y σ2)).getD false = true from hy))
      obtain ⟨hds, hy⟩ : isNilL σ2.ds = true ∧ k ⟨.bool (isNm y), setLp σ2.h l { lp2 with rdy := isNm y, left := y }, σ2.nx⟩ = true := by
        have hy : (bif isNilL σ2.ds then k ⟨.bool (isNm y), setLp σ2.h l { lp2 with rdy := isNm y, left := y }, σ2.nx⟩ else false) = true := hy
        cases hb : isNilL σ2.ds with
        | true => rw [hb] at hy; exact ⟨rfl, hy⟩
        | false => rw [hb] at hy; cases hy
      obtain ⟨z2, r2, hz2, hp2, hs2, hpd2, hW3, hE4⟩ := loop_turn hR2.wr hl2 (lp' := { lp2 with rdy := isNm y, left := y }) rfl rfl rfl rfl rfl rfl
      have hzz2 := hE3.le _ _ hzz
      rw [hzz2] at hz2; cases hz2
      have hend := run_endRound (P := P) (jumpOf y) hp2
      have hst2 : stateOf (isNm y) y = if (jumpOf y).isNone = true then LoopState.ready else .done := by
        rw [jumpOf_none]; unfold stateOf; cases isNm y <;> rfl
      have hfin := hnext ⟨.bool (isNm y), setLp σ2.h l { lp2 with rdy := isNm y, left := y }, σ2.nx⟩ m2 _ (.bool (isNm y)) hy hW3 (.bool _) (((hE1.trans hE2).trans hE3).trans hE4)
      rw [jumpOf_none] at hend
      have hend2 : (Instr.endRound z.blk (jumpOf y)).run P w2 = .ok (.bool (isNm y)) (w2.putObj z.blk (.loop { r2 with state := stateOf (isNm y) y, pending := jumpOf y })) := by
        rw [hend, hst2, jumpOf_none]
      cases y <;> exact ⟨_, _, hend2, hfin⟩
    | ret => cases hx
    | ex id => cases hx
    | gt t => cases hx
end
end Ex
end Go.Proofs.YtajoljoegbeiiaaGreatDoor

namespace Go.Proofs.YtajoljoegbeiiaaGreatDoor
set_option linter.all false
namespace Ex
open Go.RowKit
section
variable {P : Program} {prim : Prim} {self : Self} {sz : Nat} {σ : St} {m m' : Mz} {w w' : World} {a : Act} {h : Hp} {nx : Nat}
theorem want_ok {ops : Array Oper} {o : Oper} {fr : Fm} {tmps : Array Value} (hF : FR m fr tmps sz) : Region.wanted o (yielded ops tmps) = wantA ops o fr := by
  unfold Region.wanted wantA
  cases o.guard with
  | none => rfl
  | some g =>
    obtain ⟨j, want⟩ := g
    show (yielded ops tmps j == some want) = wantAt ops fr (j, want)
    unfold yielded wantAt
    cases hd : (ops[j]?).bind (·.dst) with
    | none => simp
    | some d =>
      simp only [Option.bind_some]
      have hs := hF.slot d
      cases ht : tmps[d]? with
      | none =>
        have : tmps.getD d undef = undef := by
          have hge : tmps.size ≤ d := Array.getElem?_eq_none_iff.1 ht
          simp [Array.getD, Nat.not_lt.2 hge]
        rw [this] at hs
        have hu : undef = Value.tuple #[] := rfl
        rw [hu] at hs
        generalize fr.get un d = v at hs
        cases hs
        rfl
      | some u =>
        have : tmps.getD d undef = u := by
          obtain ⟨hlt, he⟩ := Array.getElem?_eq_some_iff.1 ht
          simp [Array.getD, hlt, he]
        rw [this] at hs
        generalize fr.get un d = v at hs
        cases hs <;> rfl
/-- The method that a value's type has. -/
theorem meth_ok (hW : WR P m h nx w) {t : TypeId} {v : AV} {name : String} {mh : Mh} (hm : methA P t v name h = some mh) {V : Value} (hv : VR m v V) (fuel : Nat) : ∃ u, (method (fuel + 1) t V name).run P w = .ok (mh.f, u) w ∧ VR m mh.v u := by
  obtain ⟨me, hme, hm⟩ := bind_some hm
  obtain ⟨i, hi, hfind⟩ := bind_some hme
  obtain ⟨hpath, hm⟩ := cond_some hm
  obtain ⟨fp, hfp, hm⟩ := bind_some hm
  have hpath : me.path = #[] := by simpa using hpath
  have hfind : i.methods.find? (·.name == name) = some me := hfind
  unfold methF at hm
  cases hpd : (P.underlying t).bind ptrD with
  | some e =>
    rw [hpd] at hm
    obtain ⟨u, hu, he⟩ := bind_some hpd
    have he := ptrD_some he
    subst he
    obtain ⟨f, b⟩ := fp
    cases b with
    | true =>
      cases hm
      exact ⟨V, by simp [method, typeInfo, hi, hfind, hpath, follow, hfp, receiverAt, run_underlying hu, Place.get], hv⟩
    | false =>
      obtain ⟨p, hp, hm⟩ := bind_some (show methPtr P f h e v = some mh from hm)
      obtain ⟨x, hx, rfl⟩ := map_some hm
      rw [asP_some hp] at hv
      obtain ⟨z, hz, rfl⟩ := hv.ptr_inv
      obtain ⟨z', u', hz', hrun, hvu⟩ := loadV_ok hW hx
      rw [hz] at hz'; cases hz'
      have hchk : ∀ (q : Addr) (x y : Value), (∃ s, x = .string s) → (∃ s, y = .string s) → Builtin.ssaWrapNilChk_ #[t] t #[.pointer (some q), x, y] = pure (.pointer (some q)) := fun q x y ⟨s, hs⟩ ⟨s', hs'⟩ => by subst hs; subst hs'; rfl
      exact ⟨u', by simp [method, typeInfo, hi, hfind, hpath, follow, hfp, receiverAt, run_underlying hu, Place.get, hchk _ _ _ ⟨_, rfl⟩ ⟨_, rfl⟩, strVal, asAddr, hrun], hvu⟩
  | none =>
    rw [hpd] at hm
    obtain ⟨f, b⟩ := fp
    cases b with
    | true => cases hm
    | false =>
      obtain ⟨u, hu, rfl⟩ := map_some (show ((P.underlying t).map fun _ => (⟨f, v⟩ : Mh)) = some mh from hm)
      refine ⟨V, ?_, hv⟩
      rw [hu] at hpd
      cases u <;> first | (cases hpd; done) | simp [method, typeInfo, hi, hfind, hpath, follow, hfp, receiverAt, run_underlying hu, Place.get]
theorem isCall_some {o : Op} {c : Call} (h : isCall o = some c) : o = .call c := by cases o <;> first | (cases h; rfl) | cases h
/-- One operation in its region. -/
theorem operK_ok (hN : NoNum P) (hp : PrimOk P prim) (hS : SelfOk P self) {o : Oper} {k : St → Bool} (hk : operK P prim self o sz σ k = true) {rd : Option Nat} {F : Fence} {n : Nat} {next : Act → World → Prop} {Q : Exit → Act → World → Prop}
    (hR : Rel P m sz σ w a) (hF : RdR m rd F) (hnext : Next1 P m sz σ.h w k next) : o.uponIn F n P a next Q ((o.semAt F.round a.eval).run P w) := by
  have one : ∀ r, opA o.op P σ.fr σ.h σ.nx = some r → fin sz σ o.dst k r = true → o.uponIn F n P a next Q ((o.semAt F.round a.eval).run P w) := fun r hr hfin => by
    have hnd : ∀ c, o.op ≠ .defer c := fun c hc => by rw [hc] at hr; cases hr
    rw [Oper.semAt_eq _ _ _ hnd]
    obtain ⟨u, w', m', hrun, hW', hv, hE⟩ := opA_ok hR.wr hR.fr hr
    obtain ⟨σ', hk', hR', hE'⟩ := fin_ok hfin hR hE hW' hv
    rcases hrun with hrun | ⟨hrun, rfl⟩
    · rw [hrun, Oper.uponIn_value]; exact hnext σ' m' w' _ hk' hR' hE'
    · rw [hrun, Oper.uponIn_skip]; exact hnext σ' m' w' _ hk' hR' hE'
  have oneO : ∀ x, finO sz σ o.dst k x = true → x = opA o.op P σ.fr σ.h σ.nx → o.uponIn F n P a next Q ((o.semAt F.round a.eval).run P w) := fun x hx he => by
    cases x with
    | none => cases hx
    | some r => exact one r he.symm hx
  unfold operK at hk
  cases hc : isCall o.op with
  | none => rw [hc] at hk; exact oneO _ hk rfl
  | some c =>
    rw [hc] at hk
    have ho := isCall_some hc
    obtain ⟨vs, hvs, hk⟩ := map_some (getD_true hk)
    have hv := evL_ok hR.wr hR.fr hvs
    rw [← Array.toList_map] at hv
    have hsem : o.semAt F.round a.eval = execOp a.eval o := Oper.semAt_eq _ _ _ fun c' hc' => by rw [ho] at hc'; cases hc'
    have after : ∀ {S : Sem Next}, CallOk P m σ.h w (fin sz σ o.dst k) S → o.uponIn F n P a next Q (S.run P w) := fun hS' =>
      hS' o a rd F n next Q hF fun r m' w' v h1 h2 h3 h4 => by
        obtain ⟨σ', hk', hR', hE'⟩ := fin_ok h1 hR h4 h2 h3
        exact hnext σ' m' w' _ hk' hR' hE'
    unfold callWith at hk
    cases hcal : c.callee with
    | builtin b => rw [hcal] at hk; rw [← ho] at hk; exact oneO _ hk rfl
    | value f =>
      rw [hcal] at hk
      have hk : callVal P prim self vs σ (fin sz σ o.dst k) (evA σ.fr f) = true := hk
      cases hfv : evA σ.fr f with
      | none => rw [hfv] at hk; cases hk
      | some fv =>
        rw [hfv] at hk
        have hf := evA_ok hR.wr hR.fr hfv
        have hk : applyK P prim self vs σ.h σ.nx (fin sz σ o.dst k) fv = true := hk
        obtain ⟨FV, hFV⟩ : ∃ FV, a.eval f = FV := ⟨_, rfl⟩
        rw [hFV] at hf
        cases fv with
        | fn g first cap =>
          cases g with
          | func g =>
            have hk : callK P prim self g (cat first (cat vs cap)) σ.h σ.nx (fin sz σ o.dst k) = true := hk
            cases hf with
            | fn _ hfirst hcap =>
              rename_i first' cap'
              have hrun : (execOp a.eval o).run P w = (callFunc g (first' ++ c.args.map a.eval ++ cap')).run P w := by
                simp [execOp, ho, resolve, hcal, hFV, Deferred.ofValue, invoke]
              rw [hsem, hrun]
              refine after (callK_ok hN hp hS hk hR.wr ?_)
              rw [cat_eq, cat_eq, ← List.append_assoc, Array.toList_append, Array.toList_append]
              exact (hfirst.append hv).append hcap
          | _ => cases hk
        | yld l =>
          have hk : roundK self vs σ.h σ.nx (fin sz σ o.dst k) l = true := hk
          cases hf with
          | @yld _ z hz =>
            have hrun : (execOp a.eval o).run P w = (Instr.yield z.blk (c.args.map a.eval)).run P w := by
              simp [execOp, ho, resolve, hcal, hFV, Deferred.ofValue, invoke]
            rw [hsem, hrun]
            exact after (round_ok hS hk hR.wr hz hv)
        | _ => cases hk
    | invoke rc name =>
      rw [hcal] at hk
      have hk : ((evA σ.fr rc).map (callInv P prim self name vs σ (fin sz σ o.dst k))).getD false = true := hk
      obtain ⟨rv, hrv, hk⟩ := map_some (getD_true hk)
      have hr := evA_ok hR.wr hR.fr hrv
      obtain ⟨RV, hRV⟩ : ∃ RV, a.eval rc = RV := ⟨_, rfl⟩
      rw [hRV] at hr
      cases rv with
      | iface t v =>
        have hk : callMh P prim self vs σ (fin sz σ o.dst k) (methA P t v name σ.h) = true := hk
        cases hmh : methA P t v name σ.h with
        | none => rw [hmh] at hk; cases hk
        | some mh =>
          rw [hmh] at hk
          have hk : callK P prim self mh.f (mh.v :: vs) σ.h σ.nx (fin sz σ o.dst k) = true := hk
          cases hr with
          | iface _ hvv =>
            rename_i V
            have hfuel : ∃ d, P.types.size + Made.depth = d + 1 := ⟨P.types.size + Made.depth - 1, by
              obtain ⟨me, hme, _⟩ := bind_some hmh
              obtain ⟨i, hi, _⟩ := bind_some hme
              have : 0 < P.types.size + Made.depth := by
                have : 0 < Made.depth := by decide
                omega
              omega⟩
            obtain ⟨d, hd⟩ := hfuel
            obtain ⟨u, hu, hvu⟩ := meth_ok hR.wr hmh hvv d
            have hrun : (execOp a.eval o).run P w = (callFunc mh.f (#[u] ++ c.args.map a.eval)).run P w := by
              have e0 : (#[Value.iface t V] ++ c.args.map a.eval)[0]? = some (Value.iface t V) := by
                rw [Array.getElem?_append_left (by simp)]; rfl
              have e1 : (#[Value.iface t V] ++ c.args.map a.eval).extract 1 (#[Value.iface t V] ++ c.args.map a.eval).size = c.args.map a.eval := by
                apply Array.ext'
                simp
                exact List.take_of_length_le (by simp)
              have e2 : (execOp a.eval o) = (do
                  let d ← (pure { target := .fn (.method name) #[], args := #[Value.iface t V] ++ c.args.map a.eval } : Sem Deferred)
                  invoke d.target d.args) := by
                simp only [execOp, ho, resolve, hcal, hRV]
              rw [e2]
              simp only [pure_bind, invoke, e0, e1, callMethod, Sem.run_bind, show Sem.run P program w = .ok P w from rfl, Result.andThen_ok, hd, hu]
            rw [hsem, hrun]
            refine after (callK_ok hN hp hS hk hR.wr ?_)
            rw [Array.toList_append]
            exact .cons hvu hv
      | _ => cases hk
/-- An operation, wanted or not. -/
theorem ops1_ok (hN : NoNum P) (hp : PrimOk P prim) (hS : SelfOk P self) {ops : Array Oper} {o : Oper} {k : St → Bool} (hk : ops1 P prim self ops sz o σ k = true) {rd : Option Nat} {F : Fence} {n : Nat} {next : Act → World → Prop} {Q : Exit → Act → World → Prop}
    (hR : Rel P m sz σ w a) (hF : RdR m rd F) (hnext : Next1 P m sz σ.h w k next) :
    if Region.wanted o (yielded ops a.tmps) then o.wpIn F n P a w next Q else (∀ f, o.about P w a.eval = some f → F.fn f) ∧ next (a.put o.dst undef) w := by
  rw [want_ok hR.fr]
  unfold ops1 at hk
  cases hw : wantA ops o σ.fr with
  | true =>
    rw [hw] at hk
    exact ⟨fun f _ => hF.fn f, operK_ok hN hp hS hk hR hF hnext⟩
  | false =>
    rw [hw] at hk
    obtain ⟨σ', hpt, hk⟩ := contO_some (show contO k un (putA σ sz o.dst un) = true from hk)
    obtain ⟨h1, h2, h3, h4, h5⟩ := putA_ok (m := m) (a := a) hpt hR.fr (un_undef m)
    refine ⟨fun f _ => hF.fn f, hnext σ' m w _ hk ⟨by rw [h2, h3]; exact hR.wr, h1, by rw [h4, h5]; exact hR.mks⟩ (by rw [h2]; exact Evo.refl m _ w)⟩
theorem opsK_ok (hN : NoNum P) (hp : PrimOk P prim) (hS : SelfOk P self) {ops : Array Oper} {rd : Option Nat} {F : Fence} {n : Nat} {Q : Exit → Act → World → Prop} : ∀ (l : List Oper) (i : Nat) (σ : St) (m : Mz) (w : World) (a : Act) (k : Kx),
    ops.toList.drop i = l → opsK P prim self ops sz l σ k = true → Rel P m sz σ w a → RdR m rd F → Upon P m sz σ.h w k Q → wpOpsIn F n P ops Q (List.range' i l.length) a w
  | [], i, σ, m, w, a, k, _, hk, hR, hF, hU => hU .nm σ m w a hk hR (Evo.refl m _ w)
  | o :: l, i, σ, m, w, a, k, hl, hk, hR, hF, hU => by
    have hk : ops1 P prim self ops sz o σ (fun σ' => opsK P prim self ops sz l σ' k) = true := hk
    have hi : ops[i]? = some o := by
      rw [← Array.getElem?_toList]
      have : (ops.toList.drop i)[0]? = some o := by rw [hl]; rfl
      rw [List.getElem?_drop, Nat.add_zero] at this; exact this
    have hl' : ops.toList.drop (i + 1) = l := by
      rw [← List.drop_drop, hl]; rfl
    rw [List.length_cons, List.range'_succ]
    simp only [wpOpsIn, hi]
    have := ops1_ok hN hp hS hk (rd := rd) (F := F) (n := n) (next := wpOpsIn F n P ops Q (List.range' (i + 1) l.length)) (Q := Q) hR hF fun σ' m' w' a' hk' hR' hE => opsK_ok hN hp hS l (i + 1) σ' m' w' a' k hl' hk' hR' (hF.mono hE.le) (hU.later hE)
    exact this
theorem c_region (hN : NoNum P) (hp : PrimOk P prim) (hS : SelfOk P self) {cx : Cx} {k : Kx} {id : Nat} {ops : Array Oper} (hk : opsK P prim self ops cx.sz ops.toList σ k = true) : CodeOk P (.region id ops false) cx σ k := fun m w a F Q n hR hF hU => by
  refine wpIn_region ?_
  have := opsK_ok hN hp hS (rd := cx.rd) (F := F) (n := n) (Q := Q) ops.toList 0 σ m w a k rfl hk hR hF hU
  rw [Array.length_toList, ← List.range_eq_range'] at this
  exact this
end
end Ex
end Go.Proofs.YtajoljoegbeiiaaGreatDoor

namespace Go.Proofs.YtajoljoegbeiiaaGreatDoor
set_option linter.all false
namespace Ex
open Go.RowKit
section
variable {P : Program} {prim : Prim} {self : Self} {sz : Nat} {σ : St} {m m' : Mz} {w w' : World} {a : Act} {h : Hp} {nx : Nat}
/-- The function called with the loop's yield, and what comes behind. -/
theorem rf_call (hN : NoNum P) (hS : SelfOk P self) {cx : Cx} {k : Kx} {l : Nat} {f : AV} {ds : List Nat} {z : Cz} {F : Fence} {Q : Exit → Act → World → Prop} {n : Nat} {g : Operand} {a' : Act}
    (hk : rfGo P self cx k l ⟨σ.fr, ds, h, nx⟩ f = true) (hR : Rel P m cx.sz ⟨σ.fr, ds, h, nx⟩ w a') (hf : VR m f (a.eval g)) (hz : m l = some z) (hF : RdR m cx.rd F)
    (hU : Upon P m cx.sz h w k Q) :
    ∃ (d : Deferred) (q : FuncId) (args : Array Value), (resolve a.eval (rangeCall g z.blk) 0).run P w = .ok d w ∧ (invoke d.target d.args).run P w = .ok (.enter q args) w ∧ CallsIn F (n - 1) P q args w (rangePost F n P z.blk Q a') := by
  cases f with
  | fn fn first cap =>
    cases fn with
    | func q =>
      have hk : enterO P self (cat first (cat [.yld l] cap)) h nx (rfEnd self cx ⟨σ.fr, ds, h, nx⟩ k l) P.funcs[q]? = true := hk
      obtain ⟨fd, c, hfd, hb, hk⟩ := enterO_some hk
      obtain ⟨FV, hFV⟩ : ∃ FV, a.eval g = FV := ⟨_, rfl⟩
      rw [hFV] at hf
      cases hf with
      | fn _ hfirst hcap =>
        rename_i first' cap'
        refine ⟨{ target := .fn (.func q) cap', args := first' ++ #[.func (.yield z.blk) #[] #[]] }, q, first' ++ #[.func (.yield z.blk) #[] #[]] ++ cap', ?_, ?_, hF.calls ?_⟩
        · have e0 : a.eval (.const (.func (.yield z.blk) #[] #[])) = .func (.yield z.blk) #[] #[] := rfl
          simp [resolve, hFV, Deferred.ofValue, e0]
        · show (callFunc q (first' ++ #[.func (.yield z.blk) #[] #[]] ++ cap')).run P w = _
          exact callFunc_enter hN hfd hb _ _
        · refine enter_ok hS hfd hb hk hR.wr ?_ ?_
          · rw [cat_eq, cat_eq, ← List.append_assoc, Array.toList_append, Array.toList_append]
            exact (hfirst.append (.cons (.yld hz) .nil)).append hcap
          · intro r m' w' v hr hW' hv hE
            obtain ⟨lp, hl, hr⟩ := map_some (getD_true (show ((getLp r.h l).map (rfEnd2 self cx ⟨σ.fr, ds, h, nx⟩ k l r)).getD false = true from hr))
            obtain ⟨hst, hr⟩ : (lp.rdy || !isNm lp.left) = true ∧ k lp.left ⟨σ.fr, ds, r.h.set .dead l .dead, r.nx⟩ = true := by
              have hr : (bif lp.rdy || !isNm lp.left then k lp.left ⟨σ.fr, ds, r.h.set .dead l .dead, r.nx⟩ else false) = true := hr
              cases hb : lp.rdy || !isNm lp.left with
              | true => rw [hb] at hr; exact ⟨rfl, hr⟩
              | false => rw [hb] at hr; cases hr
            have hrel := hW'.rel l
            rw [getLp_some hl] at hrel
            obtain ⟨z', zd, fn', tmps', hz', hzd, hFr', hp⟩ := hrel
            rw [hE.le _ _ hz] at hz'; cases hz'
            have hend := run_endLoop (P := P) hp (stateOf_busy _ _ hst)
            obtain ⟨g1, g2⟩ := hW'.obj (w' := w'.putObj z.blk (.loop { state := .exhausted, pending := jumpOf lp.left, fn := fn', tmps := tmps', params := lp.ps.toArray, assign := lp.assign, body := lp.body, defers := zd.blk })) (b := l) (z := z) (ao' := .dead) (by rw [getLp_some hl]; rfl) (hE.le _ _ hz) (fun j hj => World.putObj_heap_other hj) World.putObj_size rfl rfl rfl rfl trivial
            have hQ := hU lp.left ⟨σ.fr, ds, r.h.set .dead l .dead, r.nx⟩ m' _ a' hr ⟨g1, hR.fr.mono hE.le, hR.mks.mono hE.le⟩ (hE.trans g2)
            refine ⟨jumpOf lp.left, _, hend, ?_⟩
            cases hx : lp.left with
            | nm => rw [hx] at hQ; exact hQ
            | ret => rw [hx] at hQ; exact wpIn_ret hQ
            | ex id => rw [hx] at hQ; exact wpIn_exit hQ
            | gt t => rw [hx] at hQ; exact wpIn_goto hQ
    | _ => cases hk
  | _ => cases hk
theorem c_range (hN : NoNum P) (hS : SelfOk P self) {cx : Cx} {k : Kx} {g : Operand} {ps : Array Tmp} {assign body : Code} (hk : ((evA σ.fr g).map (rfK P self ps.toList assign body cx σ k)).getD false = true) : CodeOk P (.rangeFunc g ps assign body) cx σ k := fun m w a F Q n hR hF hU => by
  obtain ⟨f, hf, hk⟩ := map_some (getD_true hk)
  have hfv := evA_ok hR.wr hR.fr hf
  refine wpIn_rangeFunc fun fn _ => ?_
  obtain ⟨csz, rd⟩ := cx
  cases rd with
  | none =>
    cases hF with
    | out =>
      have hk : rfGo P self ⟨csz, none⟩ k (σ.nx + 1) ⟨σ.fr, σ.nx :: σ.ds, setLp (σ.h.set .dead σ.nx .deferred) (σ.nx + 1) ⟨σ.fr, csz, ps.toList, assign, body, σ.nx, true, .nm⟩, σ.nx + 2⟩ f = true := hk
      obtain ⟨h1, h2⟩ := hR.wr.alloc (.deferred (some [])) .deferred ⟨w.heap.size, 0, 0⟩ rfl ⟨⟨w.heap.size, 0, 0⟩, upd_at _ _ _, heap_alloc_new w _⟩
      have hle1 := h2.le
      obtain ⟨h3, h4⟩ := h1.alloc (.loop { state := .ready, pending := none, fn, tmps := a.tmps, params := ps, assign, body, defers := w.heap.size }) (.loop ⟨σ.fr, csz, ps.toList, assign, body, σ.nx, true, .nm⟩) ⟨w.heap.size + 1, 0, 0⟩ (World.size_alloc _ _).symm
        ⟨⟨w.heap.size + 1, 0, 0⟩, ⟨w.heap.size, 0, 0⟩, fn, a.tmps, upd_at _ _ _, upd_le _ (h1.fresh _ (Nat.le_refl _)) _ _ (upd_at m σ.nx _), (hR.fr.mono hle1).mono (upd_le _ (h1.fresh _ (Nat.le_refl _))), by
          have := heap_alloc_new (w.alloc (.deferred (some []))) (.loop { state := .ready, pending := none, fn, tmps := a.tmps, params := ps, assign, body, defers := w.heap.size })
          have e : (w.alloc (.deferred (some []))).heap.size = w.heap.size + 1 := World.size_alloc _ _
          rw [e] at this
          exact this⟩
      have hle := hle1.trans h4.le
      have hE := h2.trans h4
      obtain ⟨d, q, args, e1, e2, e3⟩ := rf_call (σ := σ) (a := a) (g := g) (n := n) (Q := Q) hN hS (a' := { a with defers := [{ target := .collected w.heap.size, args := #[] }] ++ a.defers }) hk ⟨h3, hR.fr.mono hle, .cons (h4.le _ _ (upd_at m σ.nx ⟨w.heap.size, 0, 0⟩)) (hR.mks.mono hle)⟩ (hfv.mono hle) (upd_at _ _ _) .out (hU.later hE)
      exact ⟨w.heap.size + 1, _, _, d, _, q, args, _, run_enterLoop_outer fn a.tmps ps assign body, e1, fun _ _ => trivial, e2, fun hd => (by cases hd), e3⟩
  | some l0 =>
    cases hF with
    | @rnd _ z0 hz0 =>
      have hk : ((getLp σ.h l0).map (rfIn P self ps.toList assign body ⟨csz, some l0⟩ σ k f)).getD false = true := hk
      obtain ⟨lp, hl, hk⟩ := map_some (getD_true hk)
      have hk : rfGo P self ⟨csz, some l0⟩ k σ.nx ⟨σ.fr, σ.ds, setLp σ.h σ.nx ⟨σ.fr, csz, ps.toList, assign, body, lp.df, true, .nm⟩, σ.nx + 1⟩ f = true := hk
      have hrel := hR.wr.rel l0
      rw [getLp_some hl] at hrel
      obtain ⟨z', zd, fn', tmps', hz', hzd, hFr', hp⟩ := hrel
      rw [hz0] at hz'; cases hz'
      have hup := upd_le (⟨w.heap.size, 0, 0⟩ : Cz) (hR.wr.fresh _ (Nat.le_refl _))
      obtain ⟨h3, h4⟩ := hR.wr.alloc (.loop { state := .ready, pending := none, fn, tmps := a.tmps, params := ps, assign, body, defers := zd.blk }) (.loop ⟨σ.fr, csz, ps.toList, assign, body, lp.df, true, .nm⟩) ⟨w.heap.size, 0, 0⟩ rfl
        ⟨⟨w.heap.size, 0, 0⟩, zd, fn, a.tmps, upd_at _ _ _, hup _ _ hzd, hR.fr.mono hup, heap_alloc_new w _⟩
      obtain ⟨d, q, args, e1, e2, e3⟩ := rf_call (σ := σ) (a := a) (g := g) (n := n) (Q := Q) hN hS (a' := { a with defers := [] ++ a.defers }) hk ⟨h3, hR.fr.mono h4.le, hR.mks.mono h4.le⟩ (hfv.mono h4.le) (upd_at _ _ _) (.rnd (h4.le _ _ hz0)) (hU.later h4)
      refine ⟨w.heap.size, _, _, d, _, q, args, _, ?_, e1, fun _ _ => trivial, e2, fun hd => (by cases hd), e3⟩
      show (Instr.enterLoop fn a.tmps ps assign body (some z0.blk)).run P w = _
      unfold Instr.enterLoop
      simp only [Sem.run_bind, run_getLoop hp, Result.andThen_ok, Sem.run_pure, run_newObj_alloc, Result.andThen]
end
end Ex
end Go.Proofs.YtajoljoegbeiiaaGreatDoor
