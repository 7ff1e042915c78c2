/-
  The executor: a run cut into pieces: what lies between two pieces is written out (the state that a piece ends in; what is not named there is forgotten).
-/
import Derived.Test.YtajoljoegbeiiaaGreatDoorExV
namespace Go.Proofs.YtajoljoegbeiiaaGreatDoor
set_option linter.all false
namespace Ex
open Go.RowKit
noncomputable section
def eq2 {α : Type} (f : α → α → Bool) : List α → List α → Bool
  | [], [] => true
  | x :: l, y :: l' => bif f x y then eq2 f l l' else false
  | _, _ => false
def fnNo (f : Fn) : Option Nat := match f with | .func a => some a | _ => none
def eqFn1 (f g : Fn) : Bool := match fnNo f with
  | none => false
  | some a => match fnNo g with
    | none => false
    | some b => Nat.beq a b
/-- Are two values one? (A 'false' says nothing.) -/
def eqV : Nat → AV → AV → Bool
  | 0, _, _ => false
  | n + 1, x, y => match x, y with
    | .bool a, .bool b => a == b
    | .int j a, .int k b => sameK j k && eqZ a b
    | .str a, .str b => eqS a b
    | .ptr a b, .ptr c d => Nat.beq a c && Nat.beq b d
    | .nilp, .nilp => true
    | .slice a b c d e, .slice a' b' c' d' e' => Nat.beq a a' && Nat.beq b b' && Nat.beq c c' && Nat.beq d d' && (e == e')
    | .nils, .nils => true
    | .mapv a, .mapv b => Nat.beq a b
    | .nilm, .nilm => true
    | .nilf, .nilf => true
    | .yld a, .yld b => Nat.beq a b
    | .fn f a b, .fn g c d => eqFn1 f g && eq2 (eqV n) a c && eq2 (eqV n) b d
    | .iface t a, .iface u b => Nat.beq t u && eqV n a b
    | .nili, .nili => true
    | .agg a, .agg b => eq2 (eqV n) a b
    | .tup a, .tup b => eq2 (eqV n) a b
    | .rep a b, .rep c d => (a == c) && Nat.beq b d
    | _, _ => false
def eqBk (k k' : Bk) : Bool := Nat.beq k.n k'.n && Nat.beq k.e k'.e && (k.ro == k'.ro) && (k.fx == k'.fx) && (k.st == k'.st) && eq2 Nat.beq k.anc k'.anc && Nat.beq k.bnd k'.bnd && Nat.beq k.fz k'.fz && eq2 (eqV 10) (listOf k.d k.t k.n 0) (listOf k'.d k'.t k'.n 0)
def eqEnt (a b : Ent) : Bool := eqV 10 a.1 b.1 && eqV 10 a.2.1 b.2.1 && Nat.beq a.2.2 b.2.2
def eqAO (o o' : AO) : Bool := match o, o' with
  | .cells k, .cells k' => eqBk k k'
  | .map es cl, .map es' cl' => eq2 eqEnt es es' && Nat.beq cl cl'
  | .siter s p, .siter s' p' => eqS s s' && Nat.beq p p'
  | .deferred, .deferred => true
  | _, _ => false
def hpOf : List (Nat × AO) → Hp
  | [] => .nil
  | p :: l => (hpOf l).set .dead p.1 p.2
def hpIn (h : Hp) : List (Nat × AO) → Bool
  | [] => true
  | p :: l => bif eqAO p.2 (h.get .dead p.1) then hpIn h l else false
/-- A block of cells, written out. -/
def bk (l : List AV) (e : TypeId) (ro fx st : Bool) (anc : List Nat) (bnd fz : Nat) : AO := .cells ⟨treeOf un l 0 .nil, un, lenL l, e, ro, fx, st, anc, bnd, fz⟩
/-- A state, written out. -/
structure Lit where
  fr : List AV
  ds : List Nat
  hp : List (Nat × AO)
  nx : Nat
def Lit.st (l : Lit) : St := ⟨treeOf un l.fr 0 .nil, l.ds, hpOf l.hp, l.nx⟩
def litB (l : Lit) (sz : Nat) (σ : St) : Bool := Nat.beq (lenL l.fr) sz && eq2 (eqV 10) l.fr (listOf un σ.fr sz 0) && eq2 Nat.beq l.ds σ.ds && Nat.beq l.nx σ.nx && hpIn σ.h l.hp
/-- The piece ends here. -/
def cutK (l : Lit) (sz : Nat) : Kx := fun x σ => match x with
  | .nm => litB l sz σ
  | _ => false
/-- The piece ends here, by a jump out of a block. -/
def exK (id : Nat) (l : Lit) (sz : Nat) : Kx := fun x σ => match x with
  | .ex i => bif Nat.beq i id then litB l sz σ else false
  | _ => false
def roundNm (k : St → Bool) (x : X) : St → Bool := match x with
  | .nm => k
  | _ => fun _ => false
def rp (n : Nat) (b : UInt8) (l : List UInt8) : List UInt8 := Nat.rec (motive := fun _ => List UInt8) l (fun _ ih => b :: ih) n
/-- So many rounds of a loop. -/
def roundsK (self : Self) (b : Code) (cx : Cx) : Nat → St → (St → Bool) → Bool
  | 0, σ, k => k σ
  | n + 1, σ, k => self (.code b) cx σ (roundNm fun σ' => roundsK self b cx n σ' k)
/-! ### Parts of a code, by name -/
/-- Short names for the values that a written state is made of. -/
abbrev xi (n : Nat) : AV := .int .i64 (.ofNat n)
abbrev xu (n : Nat) : AV := .int .u64 (.ofNat n)
abbrev xb (n : Nat) : AV := .int .u8 (.ofNat n)
abbrev xt : AV := .bool true
abbrev xf : AV := .bool false
abbrev xs (l : List UInt8) : AV := .str l
def isSeq (c : Code) : Bool := match c with | .seq _ _ => true | _ => false
def lft (c : Code) : Code := match c with | .seq a _ => a | c => c
def rgt (c : Code) : Code := match c with | .seq _ b => b | c => c
def rgtN : Nat → Code → Code
  | 0, c => c
  | n + 1, c => rgtN n (rgt c)
def isSeqN : Nat → Code → Bool
  | 0, _ => true
  | n + 1, c => bif isSeq c then isSeqN n (rgt c) else false
/-- So many parts of a sequence. -/
def seqsK (self : Self) (cx : Cx) : Nat → Code → St → (St → Bool) → Bool
  | 0, _, σ, k => k σ
  | n + 1, c, σ, k => self (.code (lft c)) cx σ (roundNm fun σ' => seqsK self cx n (rgt c) σ' k)
def isBlock (id : Nat) (c : Code) : Bool := match c with | .block i _ => Nat.beq i id | _ => false
def isLoop (c : Code) : Bool := match c with | .loop _ => true | _ => false
def inner (c : Code) : Code := match c with | .block _ b => b | .loop b => b | c => c
def codeOf (fn : Option Func) : Code := ((fn.bind (·.body)).getD .skip)
/-- Every true piece. -/
def All (P : Program) : Self := fun j cx σ k => @decide (JobOk P j cx σ k) (Classical.propDecidable _)
end
theorem eq2_eq {α : Type} {f : α → α → Bool} (hf : ∀ x y, f x y = true → x = y) : ∀ {l l' : List α}, eq2 f l l' = true → l = l'
  | [], [], _ => rfl
  | [], _ :: _, h => by cases h
  | _ :: _, [], h => by cases h
  | x :: l, y :: l', h => by
    have h : (bif f x y then eq2 f l l' else false) = true := h
    cases hx : f x y with
    | true => rw [hx] at h; rw [hf x y hx, eq2_eq hf h]
    | false => rw [hx] at h; cases h
theorem nbeq {a b : Nat} (h : Nat.beq a b = true) : a = b := Nat.eq_of_beq_eq_true h
theorem eqFn1_eq {f g : Fn} (h : eqFn1 f g = true) : f = g := by
  unfold eqFn1 at h
  split at h
  · cases h
  · rename_i a ha
    split at h
    · cases h
    · rename_i b hb
      have := nbeq h
      subst this
      cases f <;> simp [fnNo] at ha
      cases g <;> simp [fnNo] at hb
      rw [ha, hb]
theorem eqV_eq : ∀ (n : Nat) (x y : AV), eqV n x y = true → x = y
  | 0, _, _, h => by cases h
  | n + 1, x, y, h => by
    have ih := eqV_eq n
    cases x <;> cases y <;> first | (cases h; done) | skip
    · have h := eq_of_beq (show ((_ : Bool) == _) = true from h); rw [h]
    · obtain ⟨h1, h2⟩ := Bool.and_eq_true_iff.1 (show (sameK _ _ && eqZ _ _) = true from h)
      have h1 := of_decide_eq_true h1
      rw [eqZ_eq] at h2
      have h2 := eq_of_beq h2
      rw [h1, h2]
    · have h : eqS _ _ = true := h
      rw [eqS_eq] at h
      have h := eq_of_beq h
      rw [h]
    · obtain ⟨h1, h2⟩ := Bool.and_eq_true_iff.1 (show (Nat.beq _ _ && Nat.beq _ _) = true from h)
      rw [nbeq h1, nbeq h2]
    · rfl
    · obtain ⟨h, h5⟩ := Bool.and_eq_true_iff.1 (show (Nat.beq _ _ && Nat.beq _ _ && Nat.beq _ _ && Nat.beq _ _ && (_ == _)) = true from h)
      obtain ⟨h, h4⟩ := Bool.and_eq_true_iff.1 h
      obtain ⟨h, h3⟩ := Bool.and_eq_true_iff.1 h
      obtain ⟨h1, h2⟩ := Bool.and_eq_true_iff.1 h
      rw [nbeq h1, nbeq h2, nbeq h3, nbeq h4, eq_of_beq h5]
    · rfl
    · rw [nbeq (show Nat.beq _ _ = true from h)]
    · rfl
    · obtain ⟨h, h3⟩ := Bool.and_eq_true_iff.1 (show (eqFn1 _ _ && eq2 (eqV n) _ _ && eq2 (eqV n) _ _) = true from h)
      obtain ⟨h1, h2⟩ := Bool.and_eq_true_iff.1 h
      rw [eqFn1_eq h1, eq2_eq ih h2, eq2_eq ih h3]
    · rw [nbeq (show Nat.beq _ _ = true from h)]
    · rfl
    · obtain ⟨h1, h2⟩ := Bool.and_eq_true_iff.1 (show (Nat.beq _ _ && eqV n _ _) = true from h)
      rw [nbeq h1, ih _ _ h2]
    · rfl
    · rw [eq2_eq ih (show eq2 (eqV n) _ _ = true from h)]
    · rw [eq2_eq ih (show eq2 (eqV n) _ _ = true from h)]
    · obtain ⟨h1, h2⟩ := Bool.and_eq_true_iff.1 (show ((_ == _) && Nat.beq _ _) = true from h)
      rw [eq_of_beq h1, nbeq h2]
/-- What a block says that is told of it in a written state. -/
def Sub1 (o o' : AO) : Prop := o = .dead ∨ o = o' ∨ ∃ k k', o = .cells k ∧ o' = .cells k' ∧ k.n = k'.n ∧ k.e = k'.e ∧ k.ro = k'.ro ∧ k.fx = k'.fx ∧ k.st = k'.st ∧ k.anc = k'.anc ∧ k.bnd = k'.bnd ∧ k.fz = k'.fz ∧ ∀ i, i < k.n → k.t.get k.d i = k'.t.get k'.d i
theorem eqBk_sub {k k' : Bk} (h : eqBk k k' = true) : Sub1 (.cells k) (.cells k') := by
  unfold eqBk at h
  simp only [Bool.and_eq_true] at h
  obtain ⟨⟨⟨⟨⟨⟨⟨⟨h1, h2⟩, h3⟩, h4⟩, h5⟩, h6⟩, h7⟩, h8⟩, h9⟩ := h
  have h1 := nbeq h1
  refine .inr (.inr ⟨k, k', rfl, rfl, h1, nbeq h2, eq_of_beq h3, eq_of_beq h4, eq_of_beq h5, eq2_eq (fun _ _ => nbeq) h6, nbeq h7, nbeq h8, fun i hi => ?_⟩)
  have h9 := eq2_eq (eqV_eq 10) h9
  have e1 := listOf_get k.d k.t k.n 0 i hi
  have e2 := listOf_get k'.d k'.t k'.n 0 i (h1 ▸ hi)
  rw [h9, e2] at e1
  rw [Nat.zero_add] at e1
  exact (Option.some.inj e1).symm
theorem eqEnt_eq (a b : Ent) (h : eqEnt a b = true) : a = b := by
  unfold eqEnt at h
  simp only [Bool.and_eq_true] at h
  obtain ⟨⟨h1, h2⟩, h3⟩ := h
  obtain ⟨a1, a2, a3⟩ := a
  obtain ⟨b1, b2, b3⟩ := b
  have h1 := eqV_eq _ _ _ h1
  have h2 := eqV_eq _ _ _ h2
  have h3 := nbeq h3
  simp only at h1 h2 h3
  rw [h1, h2, h3]
theorem eqAO_sub {o o' : AO} (h : eqAO o o' = true) : Sub1 o o' := by
  cases o <;> cases o' <;> first | (cases h; done) | skip
  · exact eqBk_sub h
  · obtain ⟨h1, h2⟩ := Bool.and_eq_true_iff.1 (show (eq2 eqEnt _ _ && Nat.beq _ _) = true from h)
    rw [eq2_eq eqEnt_eq h1, nbeq h2]; exact .inr (.inl rfl)
  · obtain ⟨h1, h2⟩ := Bool.and_eq_true_iff.1 (show (eqS _ _ && Nat.beq _ _) = true from h)
    rw [eqS_eq] at h1
    rw [eq_of_beq h1, nbeq h2]; exact .inr (.inl rfl)
  · exact .inr (.inl rfl)
theorem hpIn_sub {h : Hp} : ∀ {l : List (Nat × AO)}, hpIn h l = true → ∀ b, Sub1 ((hpOf l).get .dead b) (h.get .dead b)
  | [], _, b => .inl rfl
  | p :: l, hi, b => by
    have hi : (bif eqAO p.2 (h.get .dead p.1) then hpIn h l else false) = true := hi
    obtain ⟨h1, h2⟩ : eqAO p.2 (h.get .dead p.1) = true ∧ hpIn h l = true := by
      cases he : eqAO p.2 (h.get .dead p.1) with
      | true => rw [he] at hi; exact ⟨rfl, hi⟩
      | false => rw [he] at hi; cases hi
    show Sub1 (((hpOf l).set .dead p.1 p.2).get .dead b) _
    rw [Tr.get_set]
    by_cases hb : b = p.1
    · rw [if_pos hb, hb]; exact eqAO_sub h1
    · rw [if_neg hb]; exact hpIn_sub h2 b
section
variable {P : Program} {m : Mz} {w : World}
theorem OR.sub {b : Nat} {o o' : AO} (hs : Sub1 o o') (h : OR P m w b o') : OR P m w b o := by
  rcases hs with rfl | rfl | ⟨k, k', rfl, rfl, h1, h2, h3, h4, h5, h6, h7, h8, h9⟩
  · trivial
  · exact h
  · obtain ⟨z, cs, fz, hB⟩ := h
    refine ⟨z, cs, fz, hB.hm, by rw [h2]; exact hB.hp, by rw [h1, h2]; exact hB.sz, fun i hi => ?_, by rw [h5, h8]; exact hB.fr, by rw [h4]; exact hB.fx, by rw [h4, h3, h1]; exact hB.whole, by rw [h4, h3, h8]; exact hB.bare⟩
    obtain ⟨u, hu, hv⟩ := hB.here i (by rw [← h1]; exact hi)
    exact ⟨u, hu, by rw [h9 i hi]; exact hv⟩
theorem Sub1.own {o o' : AO} (hs : Sub1 o o') (h : ownO o) : ownO o' := by
  rcases hs with rfl | rfl | ⟨k, k', rfl, rfl, h1, h2, h3, _⟩
  · exact h.elim
  · exact h
  · have h : k.ro = false := h
    show k'.ro = false
    rw [← h3]; exact h
theorem Sub1.live {o o' : AO} (hs : Sub1 o o') (h : o ≠ .dead) : o' ≠ .dead := by
  rcases hs with rfl | rfl | ⟨k, k', rfl, rfl, _⟩
  · exact absurd rfl h
  · exact h
  · simp
theorem Apart.sub {o o' ox ox' : AO} {b x : Nat} {z zx : Cz} (hs : Sub1 o o') (hx : Sub1 ox ox') (hl : ox ≠ .dead) (h : Apart o' b x z zx ox') : Apart o b x z zx ox := by
  have key : Apart o' b x z zx ox := by
    cases o' with
    | cells k =>
      intro hro hst he
      obtain ⟨kx, e, h1, h2, h3, h4⟩ := h hro hst he
      rcases hx with rfl | rfl | ⟨k1, k2, rfl, rfl, g1, g2, g3, g4, g5, g6, g7, g8, _⟩
      · exact absurd rfl hl
      · exact ⟨kx, e, h1, h2, h3, h4⟩
      · cases e
        exact ⟨k1, rfl, h1, g5.trans h2, g4.trans h3, by rw [g1]; exact h4⟩
    | dead => trivial
    | map _ _ => exact h
    | siter _ _ => exact h
    | loop _ => exact h
    | deferred => exact h
  rcases hs with rfl | rfl | ⟨k, k', rfl, rfl, g1, g2, g3, g4, g5, g6, g7, g8, _⟩
  · trivial
  · exact key
  · intro hro hst he
    obtain ⟨kx, e, h1, h2, h3, h4⟩ := key (g3 ▸ hro) (g5 ▸ hst) he
    exact ⟨kx, e, by rw [g6]; exact h1, h2, h3, by rw [g7]; exact h4⟩
theorem WR.sub {h h' : Hp} {nx : Nat} (hs : ∀ b, Sub1 (h.get .dead b) (h'.get .dead b)) (hW : WR P m h' nx w) : WR P m h nx w :=
  ⟨hW.gl, hW.fresh, fun b => (hW.rel b).sub (hs b), fun b x z zx hx hb hz hl => Apart.sub (hs b) (hs x) hl (hW.ap b x z zx hx hb hz ((hs x).live hl))⟩
theorem Evo.sub {h h' : Hp} (hs : ∀ b, Sub1 (h.get .dead b) (h'.get .dead b)) : Evo m h' w m h w :=
  ⟨Le.refl m, rfl, rfl, rfl, Nat.le_refl _, fun _ _ _ => rfl, fun j _ ⟨b, z, h1, h2, h3⟩ => ⟨b, z, h1, h2, (hs b).own h3⟩, fun j _ ⟨b, z, h1, h2, h3⟩ => ⟨b, z, h1, h2, (hs b).live h3⟩⟩
theorem litB_sub {l : Lit} {sz : Nat} {σ : St} (h : litB l sz σ = true) : l.fr = listOf un σ.fr sz 0 ∧ l.fr.length = sz ∧ l.ds = σ.ds ∧ l.nx = σ.nx ∧ ∀ b, Sub1 ((hpOf l.hp).get .dead b) (σ.h.get .dead b) := by
  unfold litB at h
  simp only [Bool.and_eq_true] at h
  obtain ⟨⟨⟨⟨h1, h2⟩, h3⟩, h4⟩, h5⟩ := h
  exact ⟨eq2_eq (eqV_eq 10) h2, by rw [← lenL_eq]; exact nbeq h1, eq2_eq (fun _ _ => nbeq) h3, nbeq h4, hpIn_sub h5⟩
theorem Rel.lit {l : Lit} {sz : Nat} {σ : St} {a : Act} (h : litB l sz σ = true) (hR : Rel P m sz σ w a) : Rel P m sz l.st w a ∧ Evo m σ.h w m l.st.h w := by
  obtain ⟨h1, h2, h3, h4, h5⟩ := litB_sub h
  refine ⟨⟨?_, ⟨hR.fr.size, fun t => ?_⟩, by show MR m l.ds _; rw [h3]; exact hR.mks⟩, Evo.sub h5⟩
  · have := WR.sub h5 hR.wr
    show WR P m (hpOf l.hp) l.nx w
    rw [h4]; exact this
  · show VR m ((treeOf un l.fr 0 .nil).get un t) _
    rw [treeOf_get, if_pos (Nat.zero_le _), Nat.sub_zero]
    by_cases ht : t < sz
    · have := listOf_get un σ.fr sz 0 t ht
      rw [← h1, Nat.zero_add] at this
      rw [this]
      exact hR.fr.slot t
    · rw [List.getElem?_eq_none (by omega)]
      have : a.tmps.getD t undef = undef := by
        unfold Array.getD
        rw [dif_neg (by rw [hR.fr.size]; exact ht)]
      rw [this]; exact un_undef m
end
section
variable {P : Program} {prim : Prim} {cx : Cx} {σ : St} {k k' : Kx}
theorem all_ok : SelfOk P (All P) := fun j cx σ k h => @of_decide_eq_true _ (Classical.propDecidable _) h
theorem all_of {j : Job} (h : JobOk P j cx σ k) : All P j cx σ k = true := @decide_eq_true _ (Classical.propDecidable _) h
theorem Upon.sub {m : Mz} {sz : Nat} {h : Hp} {w : World} {Q : Exit → Act → World → Prop} (hk : ∀ x σ', k x σ' = true → k' x σ' = true) (hU : Upon P m sz h w k' Q) : Upon P m sz h w k Q := fun x σ' m' w' a' hx => hU x σ' m' w' a' (hk x σ' hx)
theorem JobOk.mono {j : Job} (hk : ∀ x σ', k x σ' = true → k' x σ' = true) (h : JobOk P j cx σ k) : JobOk P j cx σ k' := by
  cases j with
  | code c => exact ⟨fun m w a F Q n hR hF hU => h.1 m w a F Q n hR hF (hU.sub hk), fun b hb m w a F Q n hR hF hU => h.2 b hb m w a F Q n hR hF (hU.sub hk)⟩
  | scope b c => exact fun m w a F Q n hR hF hU => h m w a F Q n hR hF (hU.sub hk)
theorem JobOk.lit {j : Job} {l : Lit} (hl : litB l cx.sz σ = true) (h : JobOk P j cx l.st k) : JobOk P j cx σ k := by
  cases j with
  | code c => exact ⟨fun m w a F Q n hR hF hU => h.1 m w a F Q n (hR.lit hl).1 hF (hU.later (hR.lit hl).2), fun b hb m w a F Q n hR hF hU => h.2 b hb m w a F Q n (hR.lit hl).1 hF (hU.later (hR.lit hl).2)⟩
  | scope b c => exact fun m w a F Q n hR hF hU => h m w a F Q n (hR.lit hl).1 hF (hU.later (hR.lit hl).2)
theorem all_lit {j : Job} {l : Lit} (hl : litB l cx.sz σ = true) (h : All P j cx l.st k = true) : All P j cx σ k = true := all_of ((all_ok j cx _ k h).lit hl)
theorem all_mono {j : Job} (h : All P j cx σ k = true) (hk : ∀ x σ', k x σ' = true → k' x σ' = true) : All P j cx σ k' = true := all_of ((all_ok j cx σ k h).mono hk)
theorem all_run (hN : NoNum P) (hp : PrimOk P prim) (hmx : P.follows .mixedOrders = true) {n : Nat} {j : Job} (h : run P prim n j cx σ k = true) : All P j cx σ k = true := all_of (run_ok hN hp hmx n j cx σ k h)
theorem all_seq {a b : Code} (h : All P (.code a) cx σ (thenX (All P) b cx k) = true) : All P (.code (.seq a b)) cx σ k = true := all_of ⟨c_seq all_ok h, fun _ hb => by cases hb⟩
theorem all_block {id : Nat} {a : Code} (h : All P (.code a) cx σ (blockX id k) = true) : All P (.code (.block id a)) cx σ k = true := all_of ⟨c_block all_ok h, fun _ hb => by cases hb⟩
theorem all_loop {a : Code} (h : All P (.code a) cx σ (thenX (All P) (.loop a) cx k) = true) : All P (.code (.loop a)) cx σ k = true := all_of ⟨c_loop all_ok h, fun _ hb => by cases hb; exact l_loop all_ok h⟩
theorem isSeq_eq {c : Code} (h : isSeq c = true) : c = .seq (lft c) (rgt c) := by cases c <;> first | (cases h; done) | rfl
theorem isBlock_eq {id : Nat} {c : Code} (h : isBlock id c = true) : c = .block id (inner c) := by
  cases c <;> first | (cases h; done) | skip
  rw [nbeq (show Nat.beq _ _ = true from h)]; rfl
theorem isLoop_eq {c : Code} (h : isLoop c = true) : c = .loop (inner c) := by cases c <;> first | (cases h; done) | rfl
/-! ### The pieces -/
/-- So many parts of a sequence, behind them what comes. -/
theorem seqs_cut (hN : NoNum P) (hp : PrimOk P prim) (hmx : P.follows .mixedOrders = true) {n : Nat} {l : Lit} : ∀ (j : Nat) (c : Code) (σ : St), isSeqN j c = true → seqsK (run P prim n) cx j c σ (litB l cx.sz) = true → All P (.code (rgtN j c)) cx l.st k = true → All P (.code c) cx σ k = true
  | 0, _, _, _, h1, h2 => all_lit h1 h2
  | j + 1, c, σ, hc, h1, h2 => by
    have hc : (bif isSeq c then isSeqN j (rgt c) else false) = true := hc
    obtain ⟨ha, hb⟩ : isSeq c = true ∧ isSeqN j (rgt c) = true := by
      cases h : isSeq c with
      | true => rw [h] at hc; exact ⟨rfl, hc⟩
      | false => rw [h] at hc; cases hc
    rw [isSeq_eq ha]
    refine all_seq (all_mono (all_run hN hp hmx h1) fun x σ' hx => ?_)
    cases x with
    | nm => exact seqs_cut hN hp hmx j (rgt c) σ' hb hx h2
    | _ => cases hx
theorem seq_left {c : Code} (hc : isSeq c = true) (h : All P (.code (lft c)) cx σ (thenX (All P) (rgt c) cx k) = true) : All P (.code c) cx σ k = true := by
  rw [isSeq_eq hc]
  exact all_seq h
theorem block_in {id : Nat} {c : Code} (hb : isBlock id c = true) (h : All P (.code (inner c)) cx σ (blockX id k) = true) : All P (.code c) cx σ k = true := by
  rw [isBlock_eq hb]
  exact all_block h
/-- So many rounds of a loop, behind them the loop again. -/
theorem loop_cut (hN : NoNum P) (hp : PrimOk P prim) (hmx : P.follows .mixedOrders = true) {n : Nat} {c : Code} (hc : isLoop c = true) {l : Lit} (h2 : All P (.code c) cx l.st k = true) : ∀ (r : Nat) (σ : St), roundsK (run P prim n) (inner c) cx r σ (litB l cx.sz) = true → All P (.code c) cx σ k = true
  | 0, σ, h1 => all_lit h1 h2
  | r + 1, σ, h1 => by
    rw [isLoop_eq hc]
    refine all_loop (all_mono (all_run hN hp hmx h1) fun x σ' hx => ?_)
    cases x with
    | nm =>
      have := loop_cut hN hp hmx hc h2 r σ' hx
      rw [isLoop_eq hc] at this
      exact this
    | _ => cases hx
theorem then_lit {d : Code} {l : Lit} (h : All P (.code d) cx l.st k = true) (σ' : St) (hl : litB l cx.sz σ' = true) : thenX (All P) d cx k .nm σ' = true := all_lit (P := P) hl h
/-- The loop's last rounds: it is left by a jump out of its block. -/
theorem loop_end (hN : NoNum P) (hp : PrimOk P prim) (hmx : P.follows .mixedOrders = true) {n id : Nat} {c : Code} {l : Lit} (h1 : run P prim n (.code c) cx σ (exK id l cx.sz) = true) (h2 : ∀ σ', litB l cx.sz σ' = true → k .nm σ' = true) : All P (.code c) cx σ (blockX id k) = true := by
  refine all_mono (all_run hN hp hmx h1) fun x σ' hx => ?_
  cases x with
  | ex i =>
    have hx : (bif Nat.beq i id then litB l cx.sz σ' else false) = true := hx
    cases hi : Nat.beq i id with
    | true =>
      rw [hi] at hx
      show (bif Nat.beq i id then k .nm σ' else _) = true
      rw [hi]
      exact h2 σ' hx
    | false => rw [hi] at hx; cases hx
  | _ => cases hx
/-- A function without arguments, of whose code every piece is true. -/
theorem enter_all {fn : Func} {c : Code} {args : List AV} {h : Hp} {nx : Nat} {k : Rs → Bool} (hl : Nat.ble (lenL args) fn.ntmps = true)
    (hk : All P (.code c) ⟨fn.ntmps, none⟩ ⟨treeOf un args 0 .nil, [], h, nx⟩ (leaveX P fn k) = true) : enter P (All P) args h nx k fn c = true := by
  unfold enter
  rw [hl]; exact hk
end
end Ex
end Go.Proofs.YtajoljoegbeiiaaGreatDoor
