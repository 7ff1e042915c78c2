/-
  The executor: what a piece of code's run stands for; the simple pieces.
-/
import Derived.Test.YtojmkniahnkgbaaGreatDoorExI
import Derived.RangeFuncLeaves
import Derived.Scope
namespace Go.Proofs.YtojmkniahnkgbaaGreatDoor
set_option linter.all false
namespace Ex
open Go.RowKit
def exitOf : X → Exit
  | .nm => .normal
  | .ret => .ret
  | .ex id => .exit id
  | .gt l => .goto l
/-- The marks of the ranges over functions. -/
inductive MR (m : Mz) : List Nat → List Deferred → Prop
  | nil : MR m [] []
  | cons {d : Nat} {z : Cz} {ds : List Nat} {l : List Deferred} (h : m d = some z) (hl : MR m ds l) : MR m (d :: ds) ({ target := .collected z.blk, args := #[] } :: l)
theorem MR.mono {m m' : Mz} (hm : Le m m') {ds : List Nat} {l : List Deferred} (h : MR m ds l) : MR m' ds l := by
  induction h with
  | nil => exact .nil
  | cons h _ ih => exact .cons (hm _ _ h) ih
structure Rel (P : Program) (m : Mz) (sz : Nat) (σ : St) (w : World) (a : Act) : Prop where
  wr : WR P m σ.h σ.nx w
  fr : FR m σ.fr a.tmps sz
  mks : MR m σ.ds a.defers
/-- The fence of a frame: none; or a round's. -/
inductive RdR (m : Mz) : Option Nat → Fence → Prop
  | out : RdR m none Fence.wide
  | rnd {l : Nat} {z : Cz} (h : m l = some z) : RdR m (some l) (Fence.wide.inRound z.blk)
theorem RdR.mono {m m' : Mz} (hm : Le m m') {rd : Option Nat} {F : Fence} (h : RdR m rd F) : RdR m' rd F := by
  cases h with
  | out => exact .out
  | rnd h => exact .rnd (hm _ _ h)
theorem RdR.fn {m : Mz} {rd : Option Nat} {F : Fence} (h : RdR m rd F) (f : FuncId) : F.fn f := by cases h <;> trivial
theorem RdR.depth {m : Mz} {rd : Option Nat} {F : Fence} (h : RdR m rd F) : F.depth = none := by cases h <;> rfl
theorem RdR.room {m : Mz} {rd : Option Nat} {F : Fence} (h : RdR m rd F) (n : Nat) : F.room n := fun d hd => by rw [h.depth] at hd; cases hd
theorem RdR.calls {m : Mz} {rd : Option Nat} {F : Fence} (h : RdR m rd F) {n : Nat} {P : Program} {f : FuncId} {args : Array Value} {w : World} {R : Ending → World → Prop} (hc : CallsIn Fence.wide n P f args w R) : CallsIn F n P f args w R := by
  cases h with
  | out => exact hc
  | rnd h => exact hc
theorem RdR.round {m : Mz} {rd : Option Nat} {F : Fence} (h : RdR m rd F) {n : Nat} {P : Program} {l : Nat} {f : FuncId} {tmps : Array Value} {assign body : Code} {w : World} {R : Ending → World → Prop} (hc : RoundIn Fence.wide n P l f tmps assign body w R) : RoundIn F n P l f tmps assign body w R := by
  cases h with
  | out => exact hc
  | rnd h => exact hc
/-- What comes behind a piece of code. -/
def Upon (P : Program) (m : Mz) (sz : Nat) (h : Hp) (w : World) (k : Kx) (Q : Exit → Act → World → Prop) : Prop :=
  ∀ x σ' m' w' a', k x σ' = true → Rel P m' sz σ' w' a' → Evo m h w m' σ'.h w' → Q (exitOf x) a' w'
def CodeOk (P : Program) (c : Code) (cx : Cx) (σ : St) (k : Kx) : Prop :=
  ∀ (m : Mz) (w : World) (a : Act) (F : Fence) (Q : Exit → Act → World → Prop) (n : Nat), Rel P m cx.sz σ w a → RdR m cx.rd F → Upon P m cx.sz σ.h w k Q → c.wpIn F n P Q a w
/-- A scope under way. -/
def scopeIn (F : Fence) (n : Nat) (P : Program) (body c : Code) (Q : Exit → Act → World → Prop) (a : Act) (w : World) : Prop :=
  ∀ (b : Frame) (k : List Item) (cs : List Frame), b.roundOf = F.round → F.fn b.fn → F.room (cs.length + 1 + n) →
    ∃ e a' w', Q e a' w' ∧ ArrivesIn (Machine.fenced P F) P (lone (b.atR a (.code c :: .inScope body :: k)) cs w) b k cs e a' w'
def ScopeOk (P : Program) (body c : Code) (cx : Cx) (σ : St) (k : Kx) : Prop :=
  ∀ (m : Mz) (w : World) (a : Act) (F : Fence) (Q : Exit → Act → World → Prop) (n : Nat), Rel P m cx.sz σ w a → RdR m cx.rd F → Upon P m cx.sz σ.h w k Q → scopeIn F n P body c Q a w
/-- A loop under way. -/
def loopIn (F : Fence) (n : Nat) (P : Program) (c : Code) (Q : Exit → Act → World → Prop) (a : Act) (w : World) : Prop :=
  ∀ (b : Frame) (k : List Item) (cs : List Frame), b.roundOf = F.round → F.fn b.fn → F.room (cs.length + 1 + n) →
    ∃ e a' w', Q e a' w' ∧ ArrivesIn (Machine.fenced P F) P (lone (b.atR a (.code c :: .inLoop c :: k)) cs w) b k cs e a' w'
def LoopOk (P : Program) (c : Code) (cx : Cx) (σ : St) (k : Kx) : Prop :=
  ∀ (m : Mz) (w : World) (a : Act) (F : Fence) (Q : Exit → Act → World → Prop) (n : Nat), Rel P m cx.sz σ w a → RdR m cx.rd F → Upon P m cx.sz σ.h w k Q → loopIn F n P c Q a w
def JobOk (P : Program) (j : Job) (cx : Cx) (σ : St) (k : Kx) : Prop := match j with
  | .code c => CodeOk P c cx σ k ∧ ∀ b, c = .loop b → LoopOk P b cx σ k
  | .scope b c => ScopeOk P b c cx σ k
def SelfOk (P : Program) (self : Self) : Prop := ∀ (j : Job) (cx : Cx) (σ : St) (k : Kx), self j cx σ k = true → JobOk P j cx σ k
theorem SelfOk.code {P : Program} {self : Self} (hS : SelfOk P self) {c : Code} {cx : Cx} {σ : St} {k : Kx} (h : self (.code c) cx σ k = true) : CodeOk P c cx σ k := (hS (.code c) cx σ k h).1
theorem SelfOk.loop {P : Program} {self : Self} (hS : SelfOk P self) {c : Code} {cx : Cx} {σ : St} {k : Kx} (h : self (.code (.loop c)) cx σ k = true) : LoopOk P c cx σ k := (hS (.code (.loop c)) cx σ k h).2 c rfl
theorem SelfOk.scope {P : Program} {self : Self} (hS : SelfOk P self) {b c : Code} {cx : Cx} {σ : St} {k : Kx} (h : self (.scope b c) cx σ k = true) : ScopeOk P b c cx σ k := hS (.scope b c) cx σ k h
section
variable {P : Program} {self : Self} {cx : Cx} {σ : St} {k : Kx}
theorem Upon.at {m : Mz} {w : World} {a : Act} {Q : Exit → Act → World → Prop} (hU : Upon P m cx.sz σ.h w k Q) {x : X} (hk : k x σ = true) (hR : Rel P m cx.sz σ w a) : Q (exitOf x) a w := hU x σ m w a hk hR (Evo.refl m σ.h w)
theorem Upon.later {m m' : Mz} {w w' : World} {h h' : Hp} {sz : Nat} {Q : Exit → Act → World → Prop} (hU : Upon P m sz h w k Q) (hE : Evo m h w m' h' w') : Upon P m' sz h' w' k Q := fun x σ' m'' w'' a' hk hR hE' => hU x σ' m'' w'' a' hk hR (hE.trans hE')
theorem c_skip (h : sSkip P (fun _ _ _ _ => none) self cx σ k = true) : CodeOk P .skip cx σ k := fun m w a F Q n hR hF hU => wpIn_skip (hU.at (x := .nm) h hR)
theorem c_label {l : Nat} (h : sSkip P (fun _ _ _ _ => none) self cx σ k = true) : CodeOk P (.label l) cx σ k := fun m w a F Q n hR hF hU => wpIn_label (hU.at (x := .nm) h hR)
theorem c_exit {id : Nat} (h : k (.ex id) σ = true) : CodeOk P (.exit id) cx σ k := fun m w a F Q n hR hF hU => wpIn_exit (hU.at (x := .ex id) h hR)
theorem c_goto {l : Nat} (h : k (.gt l) σ = true) : CodeOk P (.goto l) cx σ k := fun m w a F Q n hR hF hU => wpIn_goto (hU.at (x := .gt l) h hR)
theorem c_ret (h : k .ret σ = true) : CodeOk P .ret cx σ k := fun m w a F Q n hR hF hU => wpIn_ret (hU.at (x := .ret) h hR)
theorem c_seq (hS : SelfOk P self) {c d : Code} (h : self (.code c) cx σ (thenX self d cx k) = true) : CodeOk P (.seq c d) cx σ k := fun m w a F Q n hR hF hU => by
  refine wpIn_seq (hS.code h m w a F _ n hR hF fun x σ' m' w' a' hk hR' hE => ?_)
  cases x with
  | nm => exact hS.code (show self (.code d) cx σ' k = true from hk) m' w' a' F Q n hR' (hF.mono hE.le) (hU.later hE)
  | ret => exact hU .ret σ' m' w' a' hk hR' hE
  | ex id => exact hU (.ex id) σ' m' w' a' hk hR' hE
  | gt l => exact hU (.gt l) σ' m' w' a' hk hR' hE
theorem c_cond (hS : SelfOk P self) {c : Operand} {x y : Code} (h : ((evA σ.fr c).map (condB self x y cx σ k)).getD false = true) : CodeOk P (.cond c x y) cx σ k := fun m w a F Q n hR hF hU => by
  obtain ⟨v, hv, hb⟩ := map_some (getD_true h)
  have e := evA_ok hR.wr hR.fr hv
  cases v with
  | bool t =>
    refine wpIn_cond e.bool_inv ?_
    cases t with
    | true => exact hS.code (show self (.code x) cx σ k = true from hb) m w a F Q n hR hF hU
    | false => exact hS.code (show self (.code y) cx σ k = true from hb) m w a F Q n hR hF hU
  | _ => cases hb
theorem c_block (hS : SelfOk P self) {id : Nat} {c : Code} (h : self (.code c) cx σ (blockX id k) = true) : CodeOk P (.block id c) cx σ k := fun m w a F Q n hR hF hU => by
  refine wpIn_block (hS.code h m w a F _ n hR hF fun x σ' m' w' a' hk hR' hE => ?_)
  cases x with
  | nm => exact hU .nm σ' m' w' a' hk hR' hE
  | ret => exact hU .ret σ' m' w' a' hk hR' hE
  | gt l => exact hU (.gt l) σ' m' w' a' hk hR' hE
  | ex i =>
    have hk : (bif Nat.beq i id then k .nm σ' else k (.ex i) σ') = true := hk
    show Exit.inBlock id Q (.exit i) a' w'
    by_cases hi : i = id
    · rw [show Nat.beq i id = true by rw [beq_eq]; exact decide_eq_true hi] at hk
      simp only [Exit.inBlock, hi, if_true]
      exact hU .nm σ' m' w' a' hk hR' hE
    · rw [show Nat.beq i id = false by rw [beq_eq]; exact decide_eq_false hi] at hk
      simp only [Exit.inBlock, hi, if_false]
      exact hU (.ex i) σ' m' w' a' hk hR' hE
/-- One round of a loop, and on. -/
theorem loopIn_turn {F : Fence} {n : Nat} {Q : Exit → Act → World → Prop} {a : Act} {w : World} {c : Code} (h : c.wpIn F n P (Exit.then (loopIn F n P c Q) Q) a w) : loopIn F n P c Q a w := by
  intro b k cs hro hb hr
  obtain ⟨e, a₁, w₁, hq, harr⟩ := h b (.inLoop c :: k) cs hro hb hr
  cases e with
  | normal =>
    obtain ⟨e₂, a₂, w₂, hq₂, harr₂⟩ := hq b k cs hro hb hr
    exact ⟨e₂, a₂, w₂, hq₂, .of_steps (StepsIn.trans harr (.one (fenced_calm hb hr rfl) stepR_inLoop)) harr₂⟩
  | exit id => exact ⟨_, a₁, w₁, hq, .pass (x := .inLoop c) rfl (fun _ _ => .inl (by simp)) harr⟩
  | goto l => exact ⟨_, a₁, w₁, hq, .pass (x := .inLoop c) rfl (fun _ _ => .inl (by simp)) harr⟩
  | ret => exact ⟨_, a₁, w₁, hq, .pass (x := .inLoop c) rfl (fun _ _ => .inl (by simp)) harr⟩
  | panic ch => exact ⟨_, a₁, w₁, hq, .pass (x := .inLoop c) rfl (fun _ _ => .inl (by simp)) harr⟩
  | outgrown => exact ⟨_, a₁, w₁, hq, .pass (x := .inLoop c) rfl (fun _ _ => .inl (by simp)) harr⟩
theorem wpIn_of_loopIn {F : Fence} {n : Nat} {Q : Exit → Act → World → Prop} {a : Act} {w : World} {c : Code} (h : loopIn F n P c Q a w) : (Code.loop c).wpIn F n P Q a w := fun b k cs hro hb hr => by
  obtain ⟨e, a', w', hq, harr⟩ := h b k cs hro hb hr
  exact ⟨e, a', w', hq, .of_steps (.one (fenced_calm hb hr rfl) stepR_loop) harr⟩
theorem l_loop (hS : SelfOk P self) {c : Code} (h : self (.code c) cx σ (thenX self (.loop c) cx k) = true) : LoopOk P c cx σ k := fun m w a F Q n hR hF hU => by
  refine loopIn_turn (hS.code h m w a F _ n hR hF fun x σ' m' w' a' hk hR' hE => ?_)
  cases x with
  | nm => exact hS.loop (show self (.code (.loop c)) cx σ' k = true from hk) m' w' a' F Q n hR' (hF.mono hE.le) (hU.later hE)
  | ret => exact hU .ret σ' m' w' a' hk hR' hE
  | ex id => exact hU (.ex id) σ' m' w' a' hk hR' hE
  | gt l => exact hU (.gt l) σ' m' w' a' hk hR' hE
theorem c_loop (hS : SelfOk P self) {c : Code} (h : self (.code c) cx σ (thenX self (.loop c) cx k) = true) : CodeOk P (.loop c) cx σ k := fun m w a F Q n hR hF hU => wpIn_of_loopIn (l_loop hS h m w a F Q n hR hF hU)
/-! ### Scopes -/
section
variable {b : Frame} {a : Act} {q : List Item} {cs : List Frame} {w : World}
theorem stepR_scope {c : Code} : Go.step P (lone (b.atR a (.code (.scope c) :: q)) cs w) = .next (lone (b.atR a (.code c :: .inScope c :: q)) cs w) :=
  step_lone_go (by simp [stepG, stepG.exec, Frame.atR])
theorem stepR_inScope {c : Code} : Go.step P (lone (b.atR a (.inScope c :: q)) cs w) = .next (lone (b.atR a q) cs w) :=
  step_lone_go (by simp [stepG, stepG.exec, Frame.atR])
end
theorem scopeIn_of {F : Fence} {n : Nat} {Q : Exit → Act → World → Prop} {a : Act} {w : World} {body c : Code}
    (h : c.wpIn F n P (fun e a w => match e with
      | .goto l => (match findLabel body l with
        | some rest => scopeIn F n P body rest Q a w
        | none => Q (.goto l) a w)
      | e => Q e a w) a w) : scopeIn F n P body c Q a w := by
  intro b k cs hro hb hr
  obtain ⟨e, a₁, w₁, hq, harr⟩ := h b (.inScope body :: k) cs hro hb hr
  cases e with
  | normal => exact ⟨.normal, a₁, w₁, hq, StepsIn.trans harr (.one (fenced_calm hb hr rfl) stepR_inScope)⟩
  | exit id =>
    have hx : exitTo id (.inScope body :: k) = exitTo id k := by simp [exitTo]
    exact ⟨_, a₁, w₁, hq, fun k' hk => harr.1 k' (by rw [hx]; exact hk), fun hr' hk => let ⟨k₁, h1, h2⟩ := harr.2 hr' (by rw [hx]; exact hk); ⟨k₁, h1, h2⟩⟩
  | ret => exact ⟨_, a₁, w₁, hq, harr⟩
  | panic ch => exact ⟨_, a₁, w₁, hq, harr⟩
  | outgrown => exact ⟨_, a₁, w₁, hq, harr⟩
  | goto l =>
    cases hf : findLabel body l with
    | some rest =>
      simp only [hf] at hq
      obtain ⟨e₂, a₂, w₂, hq₂, harr₂⟩ := hq b k cs hro hb hr
      exact ⟨e₂, a₂, w₂, hq₂, .of_steps (harr.1 _ (by simp [gotoIn, hf])) harr₂⟩
    | none =>
      simp only [hf] at hq
      have hx : gotoIn l (.inScope body :: k) = gotoIn l k := by simp [gotoIn, hf]
      exact ⟨_, a₁, w₁, hq, fun k' hk => harr.1 k' (by rw [hx]; exact hk), fun hr' hk => let ⟨k₁, h1, h2⟩ := harr.2 hr' (by rw [hx]; exact hk); ⟨k₁, h1, h2⟩⟩
theorem s_scope (hS : SelfOk P self) {body c : Code} (h : self (.code c) cx σ (scopeX self body cx k) = true) : ScopeOk P body c cx σ k := fun m w a F Q n hR hF hU => by
  refine scopeIn_of (hS.code h m w a F _ n hR hF fun x σ' m' w' a' hk hR' hE => ?_)
  cases x with
  | nm => exact hU .nm σ' m' w' a' hk hR' hE
  | ret => exact hU .ret σ' m' w' a' hk hR' hE
  | ex id => exact hU (.ex id) σ' m' w' a' hk hR' hE
  | gt l =>
    have hk : (match findLabel body l with
      | some rest => self (.scope body rest) cx σ' k
      | none => k (.gt l) σ') = true := hk
    show (match findLabel body l with
        | some rest => scopeIn F n P body rest Q a' w'
        | none => Q (.goto l) a' w')
    cases hf : findLabel body l with
    | some rest =>
      simp only [hf] at hk
      exact hS.scope hk m' w' a' F Q n hR' (hF.mono hE.le) (hU.later hE)
    | none =>
      simp only [hf] at hk
      exact hU (.gt l) σ' m' w' a' hk hR' hE
theorem c_scope (hS : SelfOk P self) {c : Code} (h : self (.code c) cx σ (scopeX self c cx k) = true) : CodeOk P (.scope c) cx σ k := fun m w a F Q n hR hF hU b q cs hro hb hr => by
  obtain ⟨e, a', w', hq, harr⟩ := s_scope hS h m w a F Q n hR hF hU b q cs hro hb hr
  exact ⟨e, a', w', hq, .of_steps (.one (fenced_calm hb hr rfl) stepR_scope) harr⟩
end
end Ex
end Go.Proofs.YtojmkniahnkgbaaGreatDoor
