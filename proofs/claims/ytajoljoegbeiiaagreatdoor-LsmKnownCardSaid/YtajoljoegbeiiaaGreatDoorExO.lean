/-
  The executor: operations that ask no world.
-/
import Derived.OrdersIn
import Derived.WalkKit
namespace Go.Proofs.YtajoljoegbeiiaaGreatDoor
set_option linter.all false
namespace Ex
/-- What this yields, it yields in every world, and leaves the world alone. -/
def Dry {α : Type} (P : Program) (S : Sem α) : Prop := ∀ w x w1, S.run P w = .ok x w1 → w1 = w ∧ ∀ w', S.run P w' = .ok x w'
def Never {α : Type} (P : Program) (S : Sem α) : Prop := ∀ w x w1, S.run P w ≠ .ok x w1
section
variable {P : Program} {α β : Type}
theorem Never.dry {S : Sem α} (h : Never P S) : Dry P S := fun w x w1 hr => absurd hr (h w x w1)
theorem dry_pure (x : α) : Dry P (pure x : Sem α) := fun w y w1 hr => by
  simp only [Sem.run_pure] at hr ⊢
  cases hr
  exact ⟨rfl, fun _ => rfl⟩
theorem andThen_ok {S : Result α} {f : α → World → Result β} {y : β} {w1 : World} (h : S.andThen f = .ok y w1) : ∃ x w2, S = .ok x w2 ∧ f x w2 = .ok y w1 := by
  cases S with
  | ok x w2 => exact ⟨x, w2, rfl, h⟩
  | halt x w2 => cases h
theorem dry_bind {S : Sem α} {f : α → Sem β} (hS : Dry P S) (hf : ∀ x, Dry P (f x)) : Dry P (S >>= f) := fun w y w1 hr => by
  rw [Sem.run_bind] at hr
  obtain ⟨x, w2, h1, h2⟩ := andThen_ok hr
  obtain ⟨rfl, h3⟩ := hS w x w2 h1
  obtain ⟨rfl, h4⟩ := hf x _ y w1 h2
  exact ⟨rfl, fun w' => by rw [Sem.run_bind, h3 w', Result.andThen_ok, h4 w']⟩
theorem dry_map {S : Sem α} (g : α → β) (hS : Dry P S) : Dry P (g <$> S) := by
  rw [map_eq_pure_bind]; exact dry_bind hS fun _ => dry_pure _
theorem never_bind {S : Sem α} {f : α → Sem β} (hf : ∀ x, Never P (f x)) : Never P (S >>= f) := fun w y w1 hr => by
  rw [Sem.run_bind] at hr
  obtain ⟨x, w2, h1, h2⟩ := andThen_ok hr
  exact hf x w2 y w1 h2
theorem never_stuck (s : String) : Never P (stuck s : Sem α) := fun w x w1 h => by cases h
theorem never_unsup (s : Unsupported) : Never P (unsupported s : Sem α) := fun w x w1 h => by cases h
theorem never_goPanic (v : Value) : Never P (goPanic v : Sem α) := fun w x w1 h => by cases h
theorem never_panic (e : RuntimeError) : Never P (runtimePanic e : Sem α) := by
  unfold runtimePanic
  refine never_bind fun p => ?_
  cases e <;> first | exact never_goPanic _ | (repeat (first | exact never_goPanic _ | refine never_bind fun _ => ?_ | split))
theorem dry_program : Dry P program := fun w x w1 h => by cases h; exact ⟨rfl, fun _ => rfl⟩
theorem dry_typeInfo (t : TypeId) : Dry P (typeInfo t) := by
  unfold typeInfo
  refine dry_bind dry_program fun p => ?_
  split
  · exact dry_pure _
  · exact (never_stuck _).dry
theorem dry_underlying (t : TypeId) : Dry P (underlying t) := by
  unfold underlying
  refine dry_bind dry_program fun p => ?_
  split
  · exact dry_pure _
  · exact (never_stuck _).dry
theorem dry_sizeOf (t : TypeId) : Dry P (sizeOf t) := by unfold sizeOf; exact dry_bind (dry_typeInfo t) fun _ => dry_pure _
theorem dry_zero (t : TypeId) : Dry P (zeroValue t) := by
  unfold zeroValue
  refine dry_bind (dry_typeInfo t) fun i => ?_
  split
  · exact dry_pure _
  · exact (never_unsup _).dry
theorem dry_isAgg (t : TypeId) : Dry P (isAgg t) := by
  unfold isAgg
  refine dry_bind (dry_underlying t) fun u => ?_
  split <;> exact dry_pure _
theorem dry_part (t : TypeId) (cs : Array Value) (o : Nat) : Dry P (part t cs o) := by
  unfold part
  refine dry_bind (dry_isAgg t) fun b => ?_
  split
  · exact dry_bind (dry_sizeOf t) fun _ => dry_pure _
  · split
    · exact dry_pure _
    · exact (never_stuck _).dry
theorem dry_asIntOf (v : Value) : Dry P (asIntOf v) := by
  unfold asIntOf
  split
  · exact dry_pure _
  · exact (never_unsup _).dry
  · exact (never_stuck _).dry
theorem dry_asInt (v : Value) : Dry P (asInt v) := by unfold asInt; exact dry_bind (dry_asIntOf v) fun _ => dry_pure _
theorem dry_asBool (v : Value) : Dry P (asBool v) := by
  unfold asBool
  split
  · exact dry_pure _
  · exact (never_stuck _).dry
theorem dry_asAddr (v : Value) : Dry P (asAddr v) := by
  unfold asAddr
  split
  · exact dry_pure _
  · exact (never_panic _).dry
  · exact (never_stuck _).dry
theorem dry_sureAddr (v : Value) : Dry P (Instr.sureAddr v) := by
  unfold Instr.sureAddr
  split
  · exact dry_pure _
  · exact (never_stuck _).dry
theorem never_bounds (k : IntKind) (x y : Int) (c : BoundsCode) : Never P (boundsPanic k x y c : Sem α) := by
  unfold boundsPanic
  dsimp only
  split <;> exact never_bind fun _ => never_panic _
theorem dry_bound (v : Value) (y : Nat) (c : BoundsCode) : Dry P (Instr.sliceBound v y c) := by
  unfold Instr.sliceBound
  refine dry_bind (dry_asIntOf v) fun _ => ?_
  repeat (first | exact dry_pure _ | exact (never_bounds _ _ _ _).dry | split)
theorem dry_bounds (b : Bool) (n c : Nat) (x y z : Option Value) : Dry P (Instr.sliceBounds b n c x y z) := by
  unfold Instr.sliceBounds
  repeat (first
    | exact dry_pure _
    | exact dry_underlying _
    | exact dry_sizeOf _
    | exact dry_typeInfo _
    | exact dry_zero _
    | exact dry_part _ _ _
    | exact dry_asIntOf _
    | exact dry_asInt _
    | exact dry_asBool _
    | exact dry_asAddr _
    | exact dry_sureAddr _
    | exact dry_bound _ _ _
    | exact dry_program
    | exact (never_stuck _).dry
    | exact (never_unsup _).dry
    | exact (never_panic _).dry
    | exact (never_bounds _ _ _ _).dry
    | refine dry_map _ ?_
    | refine dry_bind ?_ fun _ => ?_
    | split
    | dsimp only)
theorem dry_slice (t : TypeId) (x : Value) (lo hi mx : Option Value) : Dry P (Instr.slice t x lo hi mx) := by
  unfold Instr.slice
  repeat (first | exact dry_bounds _ _ _ _ _ _ | (first
    | exact dry_pure _
    | exact dry_underlying _
    | exact dry_sizeOf _
    | exact dry_typeInfo _
    | exact dry_zero _
    | exact dry_part _ _ _
    | exact dry_asIntOf _
    | exact dry_asInt _
    | exact dry_asBool _
    | exact dry_asAddr _
    | exact dry_sureAddr _
    | exact dry_bound _ _ _
    | exact dry_program
    | exact (never_stuck _).dry
    | exact (never_unsup _).dry
    | exact (never_panic _).dry
    | exact (never_bounds _ _ _ _).dry
    | refine dry_map _ ?_
    | refine dry_bind ?_ fun _ => ?_
    | split
    | dsimp only))
theorem dry_sliceAt (t : TypeId) (x : Value) (lo hi mx : Option Value) : Dry P (Instr.sliceAt t x lo hi mx) := by
  unfold Instr.sliceAt
  repeat (first | exact dry_bounds _ _ _ _ _ _ | exact dry_slice _ _ _ _ _ | (first
    | exact dry_pure _
    | exact dry_underlying _
    | exact dry_sizeOf _
    | exact dry_typeInfo _
    | exact dry_zero _
    | exact dry_part _ _ _
    | exact dry_asIntOf _
    | exact dry_asInt _
    | exact dry_asBool _
    | exact dry_asAddr _
    | exact dry_sureAddr _
    | exact dry_bound _ _ _
    | exact dry_program
    | exact (never_stuck _).dry
    | exact (never_unsup _).dry
    | exact (never_panic _).dry
    | exact (never_bounds _ _ _ _).dry
    | refine dry_map _ ?_
    | refine dry_bind ?_ fun _ => ?_
    | split
    | dsimp only))
theorem dry_asAgg (v : Value) : Dry P (asAgg v) := by
  unfold asAgg
  repeat (first
    | exact dry_pure _
    | exact dry_underlying _
    | exact dry_sizeOf _
    | exact dry_typeInfo _
    | exact dry_zero _
    | exact dry_part _ _ _
    | exact dry_asIntOf _
    | exact dry_asInt _
    | exact dry_asBool _
    | exact dry_asAddr _
    | exact dry_sureAddr _
    | exact dry_bound _ _ _
    | exact dry_program
    | exact (never_stuck _).dry
    | exact (never_unsup _).dry
    | exact (never_panic _).dry
    | exact (never_bounds _ _ _ _).dry
    | refine dry_map _ ?_
    | refine dry_bind ?_ fun _ => ?_
    | split
    | dsimp only)
theorem dry_field (t : TypeId) (x : Value) (i : Nat) : Dry P (Instr.field t x i) := by
  unfold Instr.field
  repeat (first | exact dry_asAgg _ | (first
    | exact dry_pure _
    | exact dry_underlying _
    | exact dry_sizeOf _
    | exact dry_typeInfo _
    | exact dry_zero _
    | exact dry_part _ _ _
    | exact dry_asIntOf _
    | exact dry_asInt _
    | exact dry_asBool _
    | exact dry_asAddr _
    | exact dry_sureAddr _
    | exact dry_bound _ _ _
    | exact dry_program
    | exact (never_stuck _).dry
    | exact (never_unsup _).dry
    | exact (never_panic _).dry
    | exact (never_bounds _ _ _ _).dry
    | refine dry_map _ ?_
    | refine dry_bind ?_ fun _ => ?_
    | split
    | dsimp only))
theorem dry_index (t : TypeId) (x y : Value) : Dry P (Instr.index t x y) := by
  unfold Instr.index
  repeat (first
    | exact dry_pure _
    | exact dry_underlying _
    | exact dry_sizeOf _
    | exact dry_typeInfo _
    | exact dry_zero _
    | exact dry_part _ _ _
    | exact dry_asIntOf _
    | exact dry_asInt _
    | exact dry_asBool _
    | exact dry_asAddr _
    | exact dry_sureAddr _
    | exact dry_bound _ _ _
    | exact dry_program
    | exact (never_stuck _).dry
    | exact (never_unsup _).dry
    | exact (never_panic _).dry
    | exact (never_bounds _ _ _ _).dry
    | refine dry_map _ ?_
    | refine dry_bind ?_ fun _ => ?_
    | split
    | dsimp only)
theorem dry_indexAt (t : TypeId) (x y : Value) : Dry P (Instr.indexAt t x y) := by
  unfold Instr.indexAt
  repeat (first
    | exact dry_pure _
    | exact dry_underlying _
    | exact dry_sizeOf _
    | exact dry_typeInfo _
    | exact dry_zero _
    | exact dry_part _ _ _
    | exact dry_asIntOf _
    | exact dry_asInt _
    | exact dry_asBool _
    | exact dry_asAddr _
    | exact dry_sureAddr _
    | exact dry_bound _ _ _
    | exact dry_program
    | exact (never_stuck _).dry
    | exact (never_unsup _).dry
    | exact (never_panic _).dry
    | exact (never_bounds _ _ _ _).dry
    | refine dry_map _ ?_
    | refine dry_bind ?_ fun _ => ?_
    | split
    | dsimp only)
theorem dry_extract (x : Value) (i : Nat) : Dry P (Instr.extract x i) := by
  unfold Instr.extract
  repeat (first
    | exact dry_pure _
    | exact dry_underlying _
    | exact dry_sizeOf _
    | exact dry_typeInfo _
    | exact dry_zero _
    | exact dry_part _ _ _
    | exact dry_asIntOf _
    | exact dry_asInt _
    | exact dry_asBool _
    | exact dry_asAddr _
    | exact dry_sureAddr _
    | exact dry_bound _ _ _
    | exact dry_program
    | exact (never_stuck _).dry
    | exact (never_unsup _).dry
    | exact (never_panic _).dry
    | exact (never_bounds _ _ _ _).dry
    | refine dry_map _ ?_
    | refine dry_bind ?_ fun _ => ?_
    | split
    | dsimp only)
theorem dry_ifc (t : TypeId) (x : Value) : Dry P (Instr.makeInterface t x) := by
  unfold Instr.makeInterface
  repeat (first
    | exact dry_pure _
    | exact dry_underlying _
    | exact dry_sizeOf _
    | exact dry_typeInfo _
    | exact dry_zero _
    | exact dry_part _ _ _
    | exact dry_asIntOf _
    | exact dry_asInt _
    | exact dry_asBool _
    | exact dry_asAddr _
    | exact dry_sureAddr _
    | exact dry_bound _ _ _
    | exact dry_program
    | exact (never_stuck _).dry
    | exact (never_unsup _).dry
    | exact (never_panic _).dry
    | exact (never_bounds _ _ _ _).dry
    | refine dry_map _ ?_
    | refine dry_bind ?_ fun _ => ?_
    | split
    | dsimp only)
theorem dry_assert (x : Value) (t u : TypeId) (ok : Bool) : Dry P (Instr.typeAssert x t u ok) := by
  unfold Instr.typeAssert
  dsimp only
  repeat (first
    | exact dry_pure _
    | exact dry_underlying _
    | exact dry_sizeOf _
    | exact dry_typeInfo _
    | exact dry_zero _
    | exact dry_part _ _ _
    | exact dry_asIntOf _
    | exact dry_asInt _
    | exact dry_asBool _
    | exact dry_asAddr _
    | exact dry_sureAddr _
    | exact dry_bound _ _ _
    | exact dry_program
    | exact (never_stuck _).dry
    | exact (never_unsup _).dry
    | exact (never_panic _).dry
    | exact (never_bounds _ _ _ _).dry
    | refine dry_map _ ?_
    | refine dry_bind ?_ fun _ => ?_
    | split
    | dsimp only)
theorem dry_unary (op : UnOp) (x : Value) : Dry P (Op.unary op x) := by
  unfold Op.unary Op.intArith Op.intBits
  repeat (first
    | exact dry_pure _
    | exact dry_underlying _
    | exact dry_sizeOf _
    | exact dry_typeInfo _
    | exact dry_zero _
    | exact dry_part _ _ _
    | exact dry_asIntOf _
    | exact dry_asInt _
    | exact dry_asBool _
    | exact dry_asAddr _
    | exact dry_sureAddr _
    | exact dry_bound _ _ _
    | exact dry_program
    | exact (never_stuck _).dry
    | exact (never_unsup _).dry
    | exact (never_panic _).dry
    | exact (never_bounds _ _ _ _).dry
    | refine dry_map _ ?_
    | refine dry_bind ?_ fun _ => ?_
    | split
    | dsimp only)
theorem dry_conv_int {s d : TypeId} {su : TypeDesc} {k k' : IntKind} (hs : P.underlying s = some su) (hd : P.underlying d = some (.int k)) (z : Int) : Dry P (convert s d (.int k' z)) := fun w x w1 h => by
  have e : ∀ w, (convert s d (.int k' z)).run P w = .ok (.int k (k.wrap z)) w := fun w => by simp [convert, run_underlying hs, run_underlying hd, Conv.intToInt]
  rw [e] at h
  cases h
  exact ⟨rfl, e⟩
theorem dry_conv_str {s d : TypeId} {su : TypeDesc} (hs : P.underlying s = some su) (hd : P.underlying d = some .string) (z : ByteArray) : Dry P (convert s d (.string z)) := fun w x w1 h => by
  have e : ∀ w, (convert s d (.string z)).run P w = .ok (.string z) w := fun w => by simp [convert, run_underlying hs, run_underlying hd]
  rw [e] at h
  cases h
  exact ⟨rfl, e⟩
/-- A value that is held against another without a look at the world. -/
def numV : Value → Bool
  | .bool _ => true
  | .int _ _ => true
  | .string _ => true
  | _ => false
def nilV : Value → Bool
  | .pointer none => true
  | .slice none _ _ => true
  | .map none => true
  | .nilFunc => true
  | .nilIface => true
  | _ => false
theorem dry_equal_num {X : Value} (hX : numV X = true) : ∀ (d : Nat) (t : TypeId) (Y : Value), Dry P (Op.equalIn d t X Y)
  | 0, t, Y => by unfold Op.equalIn; exact (never_unsup _).dry
  | d + 1, t, Y => by
    unfold Op.equalIn
    refine dry_bind (dry_underlying t) fun u => ?_
    cases X <;> first | (cases hX; done) | skip
    all_goals
      split <;> first | (exact dry_pure _) | (exact (never_stuck _).dry) | (exact (never_unsup _).dry) | (split <;> first | exact dry_pure _ | exact (never_stuck _).dry) | (rename_i h1 h2; cases h1; done) | (rename_i h1 h2; cases h2; done) | skip
theorem dry_equal_iface {tx : TypeId} {vx : Value} (hX : numV vx = true) : ∀ (d : Nat) (t : TypeId) (Y : Value), Dry P (Op.equalIn d t (.iface tx vx) Y)
  | 0, t, Y => by unfold Op.equalIn; exact (never_unsup _).dry
  | d + 1, t, Y => by
    unfold Op.equalIn
    refine dry_bind (dry_underlying t) fun u => ?_
    split <;> first | (exact dry_pure _) | (exact (never_stuck _).dry) | (exact (never_unsup _).dry) | skip
    all_goals
      first | (rename_i h1; cases h1; done) | skip
    all_goals
      rename_i tx' vx' ty' vy' hx'
      have hv : vx' = vx := by first | exact (Value.iface.inj hx').2.symm | exact (Value.iface.inj hx').2
      subst hv
    all_goals
      repeat (first
        | exact dry_pure _
        | exact (never_stuck _).dry
        | exact (never_unsup _).dry
        | exact (never_panic _).dry
        | exact never_bind (fun _ => never_panic _) |>.dry
        | exact dry_program
        | exact dry_typeInfo _
        | exact dry_equal_num hX _ _ _
        | refine dry_bind ?_ fun _ => ?_
        | split
        | dsimp only)
theorem dry_equal_nilL {X : Value} (hX : nilV X = true) : ∀ (d : Nat) (t : TypeId) (Y : Value), Dry P (Op.equalIn d t X Y)
  | 0, t, Y => by unfold Op.equalIn; exact (never_unsup _).dry
  | d + 1, t, Y => by
    unfold Op.equalIn
    refine dry_bind (dry_underlying t) fun u => ?_
    split <;> first | (exact dry_pure _) | (exact (never_stuck _).dry) | (exact (never_unsup _).dry) | (cases hX; done) | (split <;> first | exact dry_pure _ | exact (never_stuck _).dry) | skip
    all_goals
      first | (unfold samePointer; split <;> first | exact dry_pure _ | (cases hX; done)) | skip
theorem dry_equal_nilR {Y : Value} (hY : nilV Y = true) : ∀ (d : Nat) (t : TypeId) (X : Value), Dry P (Op.equalIn d t X Y)
  | 0, t, X => by unfold Op.equalIn; exact (never_unsup _).dry
  | d + 1, t, X => by
    unfold Op.equalIn
    refine dry_bind (dry_underlying t) fun u => ?_
    split <;> first | (exact dry_pure _) | (exact (never_stuck _).dry) | (exact (never_unsup _).dry) | (cases hY; done) | (split <;> first | exact dry_pure _ | exact (never_stuck _).dry) | skip
    all_goals
      first | (unfold samePointer; split <;> first | exact dry_pure _ | (cases hY; done)) | skip
def leafV (v : Value) : Bool := numV v || nilV v
/-- An aggregate of plain cells. -/
def flatV (v : Value) : Bool := match v with
  | .agg cs => cs.all leafV
  | v => leafV v
theorem dry_bind_r {S : Sem α} {f : α → Sem β} (hS : Dry P S) (hf : ∀ x, (∃ w w1, S.run P w = .ok x w1) → Dry P (f x)) : Dry P (S >>= f) := fun w y w1 hr => by
  rw [Sem.run_bind] at hr
  obtain ⟨x, w2, h1, h2⟩ := andThen_ok hr
  obtain ⟨rfl, h3⟩ := hS w x w2 h1
  obtain ⟨rfl, h4⟩ := hf x ⟨_, _, h1⟩ _ y w1 h2
  exact ⟨rfl, fun w' => by rw [Sem.run_bind, h3 w', Result.andThen_ok, h4 w']⟩
theorem never_left {S : Sem α} {f : α → Sem β} (hS : Never P S) : Never P (S >>= f) := fun w y w1 hr => by
  rw [Sem.run_bind] at hr
  obtain ⟨x, w2, h1, _⟩ := andThen_ok hr
  exact hS w x w2 h1
theorem dry_forIn {γ δ : Type} (f : γ → δ → Sem (ForInStep δ)) : ∀ (l : List γ) (b : δ), (∀ c b, Dry P (f c b)) → Dry P (forIn l b f)
  | [], b, _ => by rw [List.forIn_nil]; exact dry_pure _
  | c :: l, b, h => by
    rw [List.forIn_cons]
    refine dry_bind (h c b) fun r => ?_
    cases r with
    | done b => exact dry_pure _
    | yield b => exact dry_forIn f l b h
theorem part_flat {t : TypeId} {cs : Array Value} {o : Nat} {w w1 : World} {v : Value} (hc : cs.all leafV = true) (h : (part t cs o).run P w = .ok v w1) : flatV v = true := by
  have hall := fun c hc' => Array.all_eq_true_iff_forall_mem.1 hc c hc'
  unfold part at h
  rw [Sem.run_bind] at h
  obtain ⟨b, w2, _, h⟩ := andThen_ok h
  split at h
  · rw [Sem.run_bind] at h
    obtain ⟨n, w3, _, h⟩ := andThen_ok h
    simp only [Sem.run_pure] at h
    cases h
    show (cs.extract o (o + n)).all leafV = true
    refine Array.all_eq_true_iff_forall_mem.2 fun c hc' => hall c ?_
    rw [← Array.mem_toList_iff, Array.toList_extract] at hc'
    rw [← Array.mem_toList_iff]
    exact List.mem_of_mem_drop (List.mem_of_mem_take (by simpa [List.extract] using hc'))
  · split at h
    · rename_i x hx
      simp only [Sem.run_pure] at h
      cases h
      have := hall v (Array.mem_of_getElem? hx)
      cases v <;> first | exact this | (cases this; done)
    · exact absurd h (never_stuck _ _ _ _)
theorem dry_equal_flat : ∀ (d : Nat) (t : TypeId) {X : Value} (_ : flatV X = true) (Y : Value), Dry P (Op.equalIn d t X Y)
  | 0, t, X, _, Y => by unfold Op.equalIn; exact (never_unsup _).dry
  | d + 1, t, X, hX, Y => by
    by_cases hn : numV X = true
    · exact dry_equal_num hn _ _ _
    by_cases hl : nilV X = true
    · exact dry_equal_nilL hl _ _ _
    have hagg : ∃ cs, X = .agg cs ∧ cs.all leafV = true := by
      have key : ∀ Z, leafV Z = true → Z = X → False := fun Z hZ e => by
        subst e
        rcases Bool.or_eq_true_iff.1 (show (numV Z || nilV Z) = true from hZ) with h | h
        · exact hn h
        · exact hl h
      cases X <;> first | exact ⟨_, rfl, hX⟩ | exact (key _ hX rfl).elim
    obtain ⟨cs, rfl, hc⟩ := hagg
    unfold Op.equalIn
    refine dry_bind (dry_underlying t) fun u => ?_
    split <;> first | (exact dry_pure _) | (exact (never_stuck _).dry) | (exact (never_unsup _).dry) | skip
    all_goals first | (rename_i h1; cases h1; done) | (rename_i h1 h2; cases h1; done) | (rename_i h1 h2; cases h2; done) | skip
    · rename_i fields xs ys hx
      obtain rfl : xs = cs := by first | exact (Value.agg.inj hx) | exact (Value.agg.inj hx).symm
      refine dry_bind dry_program fun p => ?_
      split
      · exact (never_left (never_unsup _)).dry
      all_goals
        rw [← Array.forIn_toList]
        refine dry_bind (dry_forIn _ _ _ fun f b => ?_) fun r => ?_
        · split
          · refine dry_bind_r (dry_part _ _ _) fun x hx => dry_bind (dry_part _ _ _) fun y => dry_bind (dry_equal_flat d _ (by obtain ⟨w, w1, hr⟩ := hx; exact part_flat hc hr) _) fun e => ?_
            repeat (first | exact dry_pure _ | split)
          · exact dry_pure _
        · dsimp only
          repeat (first | exact dry_pure _ | split)
    · rename_i len elem xs ys hx
      obtain rfl : xs = cs := by first | exact (Value.agg.inj hx) | exact (Value.agg.inj hx).symm
      refine dry_bind (dry_sizeOf _) fun n => ?_
      rw [Std.Legacy.Range.forIn_eq_forIn_range']
      refine dry_bind (dry_forIn _ _ _ fun i b => ?_) fun r => ?_
      · refine dry_bind_r (dry_part _ _ _) fun x hx => dry_bind (dry_part _ _ _) fun y => dry_bind (dry_equal_flat d _ (by obtain ⟨w, w1, hr⟩ := hx; exact part_flat hc hr) _) fun e => ?_
        repeat (first | exact dry_pure _ | split)
      · dsimp only
        repeat (first | exact dry_pure _ | split)
theorem dry_under {t : TypeId} {u : TypeDesc} (hu : P.underlying t = some u) {f : TypeDesc → Sem β} (hf : Dry P (f u)) : Dry P (underlying t >>= f) := fun w y w1 hr => by
  rw [Sem.run_bind, run_underlying hu, Result.andThen_ok] at hr
  obtain ⟨rfl, h4⟩ := hf _ y w1 hr
  exact ⟨rfl, fun w' => by rw [Sem.run_bind, run_underlying hu, Result.andThen_ok, h4 w']⟩
theorem dry_len {t ty : TypeId} {u : TypeDesc} {ts : Array TypeId} (hts : ts[0]? = some t) (hu : P.underlying t = some u) (h1 : ∀ k e, u ≠ .map k e) (h2 : ∀ k e, u ≠ .chan k e) (X : Value) : Dry P (Builtin.len_ ts ty #[X]) := by
  unfold Builtin.len_
  rw [hts]
  show Dry P (underlying t >>= _)
  refine dry_under hu ?_
  split <;> first | exact dry_pure _ | exact (never_stuck _).dry | exact absurd rfl (h1 _ _) | exact absurd rfl (h2 _ _) | skip
  all_goals
    refine dry_bind (dry_underlying _) fun _ => ?_
    split <;> first | exact dry_pure _ | exact (never_stuck _).dry
end
end Ex
end Go.Proofs.YtajoljoegbeiiaaGreatDoor
