/-
  The executor: what its values, blocks and frames stand for in the model; first laws. The executor: worlds: what its heap stands for; blocks laid, blocks turned. The executor: operands, loads, stores. The executor: numbers, strings, equality.
-/
import Derived.Test.YtdngjkjoahgelaaGreatDoorExXA
import Derived.RangeFuncRecord
import Derived.WalkSpells
import Derived.WalkLawsBesides
import Derived.ChangeKeysEq
import Derived.Laws.StructEq
import Derived.LaidEql
import Derived.LaidEqlPtr
namespace Go.Proofs.YtdngjkjoahgelaaGreatDoor
set_option linter.all false
namespace Ex
open Go.RowKit

namespace Tr
variable {α : Type}
theorem get_nil (d : α) (i : Nat) : Tr.get d Tr.nil i = d := rfl
theorem get_zero (d v : α) (l r : Tr α) : Tr.get d (Tr.node v l r) 0 = v := rfl
theorem get_succ (d v : α) (l r : Tr α) (j : Nat) : Tr.get d (Tr.node v l r) (j + 1) = if j % 2 = 0 then Tr.get d l (j / 2) else Tr.get d r (j / 2) := by
  have e : Tr.get d (Tr.node v l r) (j + 1) = Nat.rec (motive := fun _ => α) (Tr.get d l (j / 2)) (fun _ _ => Tr.get d r (j / 2)) (j % 2) := rfl
  rcases Nat.mod_two_eq_zero_or_one j with h | h
  · rw [e, h]; rfl
  · rw [e, h]; rfl
theorem single_zero (d : α) (f : Nat) (v : α) : Tr.single d f 0 v = Tr.node v Tr.nil Tr.nil := by cases f <;> rfl
theorem single_succ (d : α) (f j : Nat) (v : α) : Tr.single d (f + 1) (j + 1) v = if j % 2 = 0 then Tr.node d (Tr.single d f (j / 2) v) Tr.nil else Tr.node d Tr.nil (Tr.single d f (j / 2) v) := by
  have e : Tr.single d (f + 1) (j + 1) v = Nat.rec (motive := fun _ => Tr α) (Tr.node d (Tr.single d f (j / 2) v) Tr.nil) (fun _ _ => Tr.node d Tr.nil (Tr.single d f (j / 2) v)) (j % 2) := rfl
  rcases Nat.mod_two_eq_zero_or_one j with h | h
  · rw [e, h]; rfl
  · rw [e, h]; rfl
theorem set_nil (d : α) (i : Nat) (v : α) : Tr.set d Tr.nil i v = Tr.single d i i v := rfl
theorem set_zero (d x v : α) (l r : Tr α) : Tr.set d (Tr.node x l r) 0 v = Tr.node v l r := rfl
theorem set_succ (d x v : α) (l r : Tr α) (j : Nat) : Tr.set d (Tr.node x l r) (j + 1) v = if j % 2 = 0 then Tr.node x (Tr.set d l (j / 2) v) r else Tr.node x l (Tr.set d r (j / 2) v) := by
  have e : Tr.set d (Tr.node x l r) (j + 1) v = Nat.rec (motive := fun _ => Tr α) (Tr.node x (Tr.set d l (j / 2) v) r) (fun _ _ => Tr.node x l (Tr.set d r (j / 2) v)) (j % 2) := rfl
  rcases Nat.mod_two_eq_zero_or_one j with h | h
  · rw [e, h]; rfl
  · rw [e, h]; rfl
theorem get_single (d : α) : ∀ (f i : Nat) (v : α), i ≤ f → ∀ j, Tr.get d (Tr.single d f i v) j = if j = i then v else d := by
  intro f
  induction f with
  | zero =>
    intro i v hi j
    obtain rfl : i = 0 := by omega
    rw [single_zero]
    cases j with
    | zero => rfl
    | succ j => rw [get_succ]; split <;> simp [get_nil]
  | succ f ih =>
    intro i v hi j
    cases i with
    | zero =>
      rw [single_zero]
      cases j with
      | zero => rfl
      | succ j => rw [get_succ]; split <;> simp [get_nil]
    | succ i =>
      rw [single_succ]
      cases j with
      | zero => split <;> simp [get_zero]
      | succ j =>
        have hh := ih (i / 2) v (by omega) (j / 2)
        by_cases hi2 : i % 2 = 0
        · rw [if_pos hi2, get_succ]
          by_cases hj2 : j % 2 = 0
          · rw [if_pos hj2, hh]
            by_cases e : j / 2 = i / 2
            · rw [if_pos e, if_pos (by omega)]
            · rw [if_neg e, if_neg (by omega)]
          · rw [if_neg hj2, get_nil, if_neg (by omega)]
        · rw [if_neg hi2, get_succ]
          by_cases hj2 : j % 2 = 0
          · rw [if_pos hj2, get_nil, if_neg (by omega)]
          · rw [if_neg hj2, hh]
            by_cases e : j / 2 = i / 2
            · rw [if_pos e, if_pos (by omega)]
            · rw [if_neg e, if_neg (by omega)]
theorem get_set (d : α) : ∀ (t : Tr α) (i : Nat) (v : α) (j : Nat), Tr.get d (Tr.set d t i v) j = if j = i then v else Tr.get d t j := by
  intro t
  induction t with
  | nil => intro i v j; rw [set_nil, get_single d i i v (Nat.le_refl _), get_nil]
  | node x l r ihl ihr =>
    intro i v j
    cases i with
    | zero =>
      rw [set_zero]
      cases j with
      | zero => rfl
      | succ j => rw [get_succ, get_succ]; simp
    | succ i =>
      rw [set_succ]
      cases j with
      | zero => split <;> simp [get_zero]
      | succ j =>
        by_cases hi2 : i % 2 = 0
        · rw [if_pos hi2, get_succ, get_succ]
          by_cases hj2 : j % 2 = 0
          · rw [if_pos hj2, if_pos hj2, ihl]
            by_cases e : j / 2 = i / 2
            · rw [if_pos e, if_pos (by omega)]
            · rw [if_neg e, if_neg (by omega)]
          · rw [if_neg hj2, if_neg hj2, if_neg (by omega)]
        · rw [if_neg hi2, get_succ, get_succ]
          by_cases hj2 : j % 2 = 0
          · rw [if_pos hj2, if_pos hj2, if_neg (by omega)]
          · rw [if_neg hj2, if_neg hj2, ihr]
            by_cases e : j / 2 = i / 2
            · rw [if_pos e, if_pos (by omega)]
            · rw [if_neg e, if_neg (by omega)]
end Tr
theorem treeOf_get (d : AV) : ∀ (l : List AV) (i : Nat) (t : Tr AV) (j : Nat), (treeOf d l i t).get d j = if i ≤ j then (l[j - i]?).getD (t.get d j) else t.get d j := by
  intro l
  induction l with
  | nil => intro i t j; simp [treeOf]
  | cons v l ih =>
    intro i t j
    show (treeOf d l (i + 1) (t.set d i v)).get d j = _
    rw [ih, Tr.get_set]
    by_cases h : i + 1 ≤ j
    · have e1 : ¬ j = i := by omega
      have e2 : i ≤ j := by omega
      have e3 : j - i = (j - (i + 1)) + 1 := by omega
      simp only [h, e1, e2, if_true, if_false, e3, List.getElem?_cons_succ]
    · by_cases h2 : j = i
      · subst h2; rw [if_neg h]; simp
      · have e2 : ¬ i ≤ j := by omega
        simp only [h, h2, e2, if_false]
theorem lenL_eq {α : Type} (l : List α) : lenL l = l.length := by
  induction l with
  | nil => rfl
  | cons x l ih => show Nat.succ (lenL l) = _; rw [ih]; rfl
theorem cat_eq {α : Type} (a b : List α) : cat a b = a ++ b := by
  induction a with
  | nil => rfl
  | cons x a ih => show x :: cat a b = _; rw [ih]; rfl
theorem listOf_len (d : AV) (t : Tr AV) : ∀ (n i : Nat), (listOf d t n i).length = n := by
  intro n
  induction n with
  | zero => intro i; rfl
  | succ n ih => intro i; show (t.get d i :: listOf d t n (i + 1)).length = _; rw [List.length_cons, ih]
theorem listOf_get (d : AV) (t : Tr AV) : ∀ (n i j : Nat), j < n → (listOf d t n i)[j]? = some (t.get d (i + j)) := by
  intro n
  induction n with
  | zero => intro i j h; omega
  | succ n ih =>
    intro i j h
    show (t.get d i :: listOf d t n (i + 1))[j]? = _
    cases j with
    | zero => rfl
    | succ j => rw [List.getElem?_cons_succ, ih _ _ (by omega), show i + 1 + j = i + (j + 1) by omega]

structure Cz where
  blk : Nat
  sh : Nat
  ext : Nat
abbrev Mz := Nat → Option Cz
mutual
inductive VR (m : Mz) : AV → Value → Prop
  | bool (b : Bool) : VR m (.bool b) (.bool b)
  | int (k : IntKind) (z : Int) : VR m (.int k z) (.int k z)
  | str (s : List UInt8) : VR m (.str s) (.string ⟨s.toArray⟩)
  | ptr {b : Nat} {z : Cz} (o : Nat) (h : m b = some z) : VR m (.ptr b o) (.pointer (some ⟨z.blk, z.sh + o, none⟩))
  | nilp : VR m .nilp (.pointer none)
  | slice {b : Nat} {z : Cz} (o n c : Nat) (ex : Bool) (h : m b = some z) : VR m (.slice b o n c ex) (.slice (some ⟨z.blk, z.sh + o, none⟩) n (if ex = true then c else c + z.ext))
  | sliceZ {b : Nat} {z : Cz} (o : Nat) (a : Addr) (h : m b = some z) : VR m (.slice b o 0 0 false) (.slice (some a) 0 0)
  | nils : VR m .nils (.slice none 0 0)
  | mapv {b : Nat} {z : Cz} (h : m b = some z) : VR m (.mapv b) (.map (some z.blk))
  | nilm : VR m .nilm (.map none)
  | fn (f : Fn) {a c : List AV} {a' c' : Array Value} (ha : VRL m a a'.toList) (hc : VRL m c c'.toList) : VR m (.fn f a c) (.func f a' c')
  | yld {b : Nat} {z : Cz} (h : m b = some z) : VR m (.yld b) (.func (.yield z.blk) #[] #[])
  | nilf : VR m .nilf .nilFunc
  | iface (t : TypeId) {v : AV} {u : Value} (h : VR m v u) : VR m (.iface t v) (.iface t u)
  | nili : VR m .nili .nilIface
  | agg {l : List AV} {us : Array Value} (h : VRL m l us.toList) : VR m (.agg l) (.agg us)
  | tup {l : List AV} {us : Array Value} (h : VRL m l us.toList) : VR m (.tup l) (.tuple us)
  | rep (b : UInt8) (n : Nat) : VR m (.rep b n) (.string ⟨(List.replicate n b).toArray⟩)
inductive VRL (m : Mz) : List AV → List Value → Prop
  | nil : VRL m [] []
  | cons {v : AV} {u : Value} {l : List AV} {us : List Value} (h : VR m v u) (hl : VRL m l us) : VRL m (v :: l) (u :: us)
end
def Le (m m' : Mz) : Prop := ∀ b z, m b = some z → m' b = some z
theorem Le.refl (m : Mz) : Le m m := fun _ _ h => h
theorem Le.trans {a b c : Mz} (h : Le a b) (h' : Le b c) : Le a c := fun x z hx => h' x z (h x z hx)
mutual
theorem VR.mono {m m' : Mz} (hm : Le m m') : ∀ {v : AV} {u : Value}, VR m v u → VR m' v u
  | _, _, .bool b => .bool b
  | _, _, .int k z => .int k z
  | _, _, .str s => .str s
  | _, _, .ptr o h => .ptr o (hm _ _ h)
  | _, _, .nilp => .nilp
  | _, _, .slice o n c ex h => .slice o n c ex (hm _ _ h)
  | _, _, .sliceZ o a h => .sliceZ o a (hm _ _ h)
  | _, _, .nils => .nils
  | _, _, .mapv h => .mapv (hm _ _ h)
  | _, _, .nilm => .nilm
  | _, _, .fn f ha hc => .fn f (VRL.mono hm ha) (VRL.mono hm hc)
  | _, _, .yld h => .yld (hm _ _ h)
  | _, _, .nilf => .nilf
  | _, _, .iface t h => .iface t (VR.mono hm h)
  | _, _, .nili => .nili
  | _, _, .agg h => .agg (VRL.mono hm h)
  | _, _, .tup h => .tup (VRL.mono hm h)
  | _, _, .rep b n => .rep b n
theorem VRL.mono {m m' : Mz} (hm : Le m m') : ∀ {l : List AV} {us : List Value}, VRL m l us → VRL m' l us
  | _, _, .nil => .nil
  | _, _, .cons h hl => .cons (VR.mono hm h) (VRL.mono hm hl)
end
theorem VRL.length {m : Mz} : ∀ {l : List AV} {us : List Value}, VRL m l us → l.length = us.length
  | _, _, .nil => rfl
  | _, _, .cons _ hl => by simp [hl.length]
theorem VRL.get {m : Mz} : ∀ {l : List AV} {us : List Value}, VRL m l us → ∀ (i : Nat) (v : AV), l[i]? = some v → ∃ u, us[i]? = some u ∧ VR m v u
  | _, _, .nil, i, v, h => by simp at h
  | _, _, .cons h hl, 0, v, e => by simp at e; subst e; exact ⟨_, rfl, h⟩
  | _, _, .cons h hl, i + 1, v, e => by simpa using hl.get i v (by simpa using e)
theorem VRL.append {m : Mz} : ∀ {l l' : List AV} {us us' : List Value}, VRL m l us → VRL m l' us' → VRL m (l ++ l') (us ++ us')
  | _, _, _, _, .nil, h' => h'
  | _, _, _, _, .cons h hl, h' => .cons h (hl.append h')
theorem VRL.take {m : Mz} : ∀ {l : List AV} {us : List Value}, VRL m l us → ∀ n, VRL m (l.take n) (us.take n)
  | _, _, .nil, n => by simpa using VRL.nil
  | _, _, .cons h hl, 0 => .nil
  | _, _, .cons h hl, n + 1 => .cons h (hl.take n)
theorem VRL.drop {m : Mz} : ∀ {l : List AV} {us : List Value}, VRL m l us → ∀ n, VRL m (l.drop n) (us.drop n)
  | _, _, .nil, n => by simpa using VRL.nil
  | _, _, .cons h hl, 0 => .cons h hl
  | _, _, .cons h hl, n + 1 => hl.drop n
theorem VRL.of_get {m : Mz} : ∀ {l : List AV} {us : List Value}, l.length = us.length → (∀ (i : Nat) (v : AV), l[i]? = some v → ∃ u, us[i]? = some u ∧ VR m v u) → VRL m l us
  | [], [], _, _ => .nil
  | [], _ :: _, h, _ => by simp at h
  | _ :: _, [], h, _ => by simp at h
  | v :: l, u :: us, h, hg => by
    obtain ⟨u', e, hv⟩ := hg 0 v rfl
    simp at e; subst e
    exact .cons hv (VRL.of_get (by simpa using h) fun (i : Nat) (w : AV) (hw : l[i]? = some w) => by simpa using hg (i + 1) w (by simpa using hw))
theorem VR.cells {m : Mz} {v : AV} {u : Value} (h : VR m v u) : VRL m v.cells u.cells.toList := by
  have h' := h
  cases h <;> first | assumption | exact .cons h' .nil
theorem oneA_of {m : Mz} {v : AV} {u : Value} (h : VR m v u) (ho : oneA v = true) : u.oneCell' = true := by
  cases h <;> first | rfl | simp [oneA] at ho
theorem un_undef (m : Mz) : VR m un undef := .tup .nil
end Ex
end Go.Proofs.YtdngjkjoahgelaaGreatDoor

namespace Go.Proofs.YtdngjkjoahgelaaGreatDoor
set_option linter.all false
namespace Ex
open Go.RowKit

def FzOk (fz : Nat × Nat) (size a : Nat) : Prop := ∀ j, a ≤ j → j < size → ¬ (fz.1 ≤ j ∧ j < fz.2)
structure BR (P : Program) (m : Mz) (w : World) (b : Nat) (k : Bk) (z : Cz) (cs : Array Value) (fz : Nat × Nat) : Prop where
  hm : m b = some z
  hp : w.heap[z.blk]? = some (.cells cs k.e fz)
  sz : z.sh + k.n + z.ext * P.cellsOf k.e ≤ cs.size
  here : ∀ i, i < k.n → ∃ u, cs[z.sh + i]? = some u ∧ VR m (k.t.get k.d i) u
  fr : k.st = false → FzOk fz cs.size (z.sh + k.fz)
  fx : k.fx = true → z.ext = 0
  whole : k.fx = true → k.ro = false → z.sh = 0 ∧ cs.size = k.n
  bare : k.fx = true → k.ro = false → k.fz = 0 → fz = (0, 0)
structure FR (m : Mz) (fr : Fm) (tmps : Array Value) (sz : Nat) : Prop where
  size : tmps.size = sz
  slot : ∀ t, VR m (fr.get un t) (tmps.getD t undef)
theorem FR.mono {m m' : Mz} (hm : Le m m') {fr : Fm} {tmps : Array Value} {sz : Nat} (h : FR m fr tmps sz) : FR m' fr tmps sz := ⟨h.size, fun t => (h.slot t).mono hm⟩
inductive ER (m : Mz) : List Ent → List MapEntry → Prop
  | nil : ER m [] []
  | cons {k v : AV} {n : Nat} {k' v' : Value} {es : List Ent} {es' : List MapEntry} (hk : VR m k k') (hv : VR m v v') (h : ER m es es') : ER m ((k, v, n) :: es) ({ key := k', val := v', born := n } :: es')
theorem ER.mono {m m' : Mz} (hm : Le m m') {es : List Ent} {es' : List MapEntry} (h : ER m es es') : ER m' es es' := by
  induction h with
  | nil => exact .nil
  | cons hk hv _ ih => exact .cons (hk.mono hm) (hv.mono hm) ih
def jumpOf (x : X) : Option Code := match x with
  | .nm => none
  | .ret => some .ret
  | .ex id => some (.exit id)
  | .gt l => some (.goto l)
def stateOf (rdy : Bool) (x : X) : LoopState := if rdy = true then .ready else if isNm x = true then .busy else .done
def OR (P : Program) (m : Mz) (w : World) (b : Nat) (o : AO) : Prop := match o with
  | .cells k => ∃ z cs fz, BR P m w b k z cs fz
  | .map es cl => ∃ (z : Cz) (es' : Array MapEntry), m b = some z ∧ w.heap[z.blk]? = some (.map es' cl) ∧ ER m es es'.toList
  | .siter s pos => ∃ z : Cz, m b = some z ∧ w.heap[z.blk]? = some (.stringIter ⟨s.toArray⟩ pos)
  | .loop lp => ∃ (z zd : Cz) (fn : FuncId) (tmps : Array Value), m b = some z ∧ m lp.df = some zd ∧ FR m lp.fr tmps lp.sz ∧
      w.heap[z.blk]? = some (.loop { state := stateOf lp.rdy lp.left, pending := jumpOf lp.left, fn := fn, tmps := tmps, params := lp.ps.toArray, assign := lp.assign, body := lp.body, defers := zd.blk })
  | .deferred => ∃ z : Cz, m b = some z ∧ w.heap[z.blk]? = some (.deferred (some []))
  | .dead => True
theorem OR.mono {P : Program} {m m' : Mz} {w w' : World} {b : Nat} {o : AO} (h : OR P m w b o) (hm : Le m m') (hw : ∀ z, m b = some z → o ≠ .dead → w'.heap[z.blk]? = w.heap[z.blk]?) : OR P m' w' b o := by
  cases o with
  | cells k =>
    obtain ⟨z, cs, fz, hB⟩ := h
    have e := hw z hB.hm (by simp)
    exact ⟨z, cs, fz, hm _ _ hB.hm, e.trans hB.hp, hB.sz, fun i hi => by obtain ⟨u, hu, hv⟩ := hB.here i hi; exact ⟨u, hu, hv.mono hm⟩, hB.fr, hB.fx, hB.whole, hB.bare⟩
  | map es cl =>
    obtain ⟨z, es', h1, h2, h3⟩ := h
    exact ⟨z, es', hm _ _ h1, (hw z h1 (by simp)).trans h2, h3.mono hm⟩
  | siter s pos =>
    obtain ⟨z, h1, h2⟩ := h
    exact ⟨z, hm _ _ h1, (hw z h1 (by simp)).trans h2⟩
  | loop lp =>
    obtain ⟨z, zd, fn, tmps, h1, h2, h3, h4⟩ := h
    exact ⟨z, zd, fn, tmps, hm _ _ h1, hm _ _ h2, h3.mono hm, (hw z h1 (by simp)).trans h4⟩
  | deferred =>
    obtain ⟨z, h1, h2⟩ := h
    exact ⟨z, hm _ _ h1, (hw z h1 (by simp)).trans h2⟩
  | dead => trivial
theorem OR.there {P : Program} {m : Mz} {w : World} {b : Nat} {o : AO} (h : OR P m w b o) (ho : o ≠ .dead) : ∃ z, m b = some z ∧ ∃ x, w.heap[z.blk]? = some x := by
  cases o with
  | cells k => obtain ⟨z, cs, fz, hB⟩ := h; exact ⟨z, hB.hm, _, hB.hp⟩
  | map es cl => obtain ⟨z, es', h1, h2, _⟩ := h; exact ⟨z, h1, _, h2⟩
  | siter s pos => obtain ⟨z, h1, h2⟩ := h; exact ⟨z, h1, _, h2⟩
  | loop lp => obtain ⟨z, zd, fn, tmps, h1, _, _, h4⟩ := h; exact ⟨z, h1, _, h4⟩
  | deferred => obtain ⟨z, h1, h2⟩ := h; exact ⟨z, h1, _, h2⟩
  | dead => exact absurd rfl ho
def ownO (o : AO) : Prop := match o with
  | .cells k => k.ro = false
  | .dead => False
  | _ => True
def Apart (o : AO) (b x : Nat) (z zx : Cz) (ox : AO) : Prop := match o with
  | .cells k => k.ro = false → k.st = false → zx.blk = z.blk → ∃ kx, ox = .cells kx ∧ x ∈ k.anc ∧ kx.st = true ∧ kx.fx = false ∧ zx.sh + kx.n ≤ z.sh + k.bnd
  | .dead => True
  | _ => zx.blk ≠ z.blk
structure WR (P : Program) (m : Mz) (h : Hp) (nx : Nat) (w : World) : Prop where
  gl : ∀ g, g < 1000 → m g = some ⟨g, 0, 0⟩
  fresh : ∀ b, nx ≤ b → m b = none
  rel : ∀ b, OR P m w b (h.get .dead b)
  ap : ∀ b x z zx, x ≠ b → m b = some z → m x = some zx → h.get .dead x ≠ .dead → Apart (h.get .dead b) b x z zx (h.get .dead x)
def Owns (m : Mz) (h : Hp) (j : Nat) : Prop := ∃ b z, m b = some z ∧ z.blk = j ∧ ownO (h.get .dead b)
structure Evo (m : Mz) (h : Hp) (w : World) (m' : Mz) (h' : Hp) (w' : World) : Prop where
  le : Le m m'
  os : w'.os = w.os
  tape : w'.tape = w.tape
  output : w'.output = w.output
  size : w.heap.size ≤ w'.heap.size
  keep : ∀ j, j < w.heap.size → ¬ Owns m h j → w'.heap[j]? = w.heap[j]?
  own : ∀ j, j < w.heap.size → Owns m' h' j → Owns m h j
theorem Evo.refl (m : Mz) (h : Hp) (w : World) : Evo m h w m h w := ⟨Le.refl m, rfl, rfl, rfl, Nat.le_refl _, fun _ _ _ => rfl, fun _ _ h => h⟩
theorem Evo.trans {m m' m'' : Mz} {h h' h'' : Hp} {w w' w'' : World} (a : Evo m h w m' h' w') (b : Evo m' h' w' m'' h'' w'') : Evo m h w m'' h'' w'' :=
  ⟨a.le.trans b.le, b.os.trans a.os, b.tape.trans a.tape, b.output.trans a.output, Nat.le_trans a.size b.size,
   fun j hj hn => by
     rw [b.keep j (Nat.lt_of_lt_of_le hj a.size) (fun ho => hn (a.own j hj ho))]
     exact a.keep j hj hn,
   fun j hj ho => a.own j hj (b.own j (Nat.lt_of_lt_of_le hj a.size) ho)⟩
theorem WR.drew {P : Program} {m : Mz} {h : Hp} {nx : Nat} {w w' : World} (hW : WR P m h nx w) (hh : w'.heap = w.heap) : WR P m h nx w' :=
  ⟨hW.gl, hW.fresh, fun b => (hW.rel b).mono (Le.refl m) fun z _ _ => by rw [hh], hW.ap⟩
theorem Evo.drew {m : Mz} {h : Hp} {w w' : World} (hh : w'.heap = w.heap) (ho : w'.os = w.os) (ht : w'.tape = w.tape) (hp : w'.output = w.output) : Evo m h w m h w' :=
  ⟨Le.refl m, ho, ht, hp, by rw [hh]; exact Nat.le_refl _, fun j _ _ => by rw [hh], fun _ _ h => h⟩
theorem WR.lt {P : Program} {m : Mz} {h : Hp} {nx : Nat} {w : World} (hW : WR P m h nx w) {b : Nat} {z : Cz} (hb : h.get .dead b ≠ .dead) (hz : m b = some z) : z.blk < w.heap.size := by
  obtain ⟨z', h1, x, h2⟩ := (hW.rel b).there hb
  rw [hz] at h1; cases h1
  exact (Array.getElem?_eq_some_iff.1 h2).1
def upd (m : Mz) (b : Nat) (z : Cz) : Mz := fun x => if x = b then some z else m x
theorem upd_at (m : Mz) (b : Nat) (z : Cz) : upd m b z b = some z := if_pos rfl
theorem upd_ne (m : Mz) {b x : Nat} (z : Cz) (h : x ≠ b) : upd m b z x = m x := if_neg h
theorem upd_le {m : Mz} {b : Nat} (z : Cz) (h : m b = none) : Le m (upd m b z) := fun x y hx => by
  have : x ≠ b := fun e => by rw [e, h] at hx; cases hx
  rw [upd_ne m z this]; exact hx
theorem Apart.symm_none {o : AO} {b x : Nat} {z zx : Cz} {ox : AO} (h : zx.blk ≠ z.blk) : Apart o b x z zx ox := by
  cases o with
  | cells k => intro _ _ e; exact absurd e h
  | dead => trivial
  | _ => exact h
theorem WR.alloc {P : Program} {m : Mz} {h : Hp} {nx : Nat} {w : World} (hW : WR P m h nx w) (o : Obj) (ao : AO) (z : Cz) (hz : z.blk = w.heap.size)
    (hr : OR P (upd m nx z) (w.alloc o) nx ao) : WR P (upd m nx z) (h.set .dead nx ao) (nx + 1) (w.alloc o) ∧ Evo m h w (upd m nx z) (h.set .dead nx ao) (w.alloc o) := by
  have hn := hW.fresh nx (Nat.le_refl _)
  have hle := upd_le z hn
  have hold : ∀ j, j < w.heap.size → (w.alloc o).heap[j]? = w.heap[j]? := fun j hj => by
    show (w.heap.push o)[j]? = _
    rw [Array.getElem?_push, if_neg (by omega)]
  have hlt : ∀ b z', h.get .dead b ≠ .dead → m b = some z' → z'.blk < w.heap.size := fun b z' hb hm => hW.lt hb hm
  refine ⟨⟨fun g hg => hle _ _ (hW.gl g hg), fun b hb => ?_, fun b => ?_, ?_⟩, hle, rfl, rfl, rfl, ?_, fun j hj _ => hold j hj, ?_⟩
  · rw [upd_ne m z (by omega)]; exact hW.fresh b (by omega)
  · rw [Tr.get_set]
    by_cases hb : b = nx
    · rw [if_pos hb]; subst hb; exact hr
    · rw [if_neg hb]
      exact (hW.rel b).mono hle fun z' hm hd => hold _ (hlt b z' hd hm)
  · intro b x zb zx hx hmb hmx hlive
    rw [Tr.get_set] at hlive
    rw [Tr.get_set, Tr.get_set]
    by_cases hb : b = nx
    · subst hb
      have hxn : x ≠ b := hx
      rw [if_neg hxn] at hlive
      rw [upd_at] at hmb; cases hmb
      rw [upd_ne m _ hxn] at hmx
      have := hlt x zx hlive hmx
      exact Apart.symm_none (by omega)
    · rw [if_neg hb]
      rw [upd_ne m z hb] at hmb
      by_cases hxn : x = nx
      · subst hxn
        rw [upd_at] at hmx; cases hmx
        by_cases hd : h.get .dead b = .dead
        · rw [hd]; trivial
        · have := hlt b zb hd hmb
          exact Apart.symm_none (by omega)
      · rw [if_neg hxn] at hlive ⊢
        rw [upd_ne m z hxn] at hmx
        exact hW.ap b x zb zx hx hmb hmx hlive
  · show w.heap.size ≤ (w.heap.push o).size
    simp
  · rintro j hj ⟨b, zb, hmb, hbj, ho⟩
    rw [Tr.get_set] at ho
    by_cases hb : b = nx
    · subst hb; rw [upd_at] at hmb; cases hmb; omega
    · rw [if_neg hb] at ho; rw [upd_ne m z hb] at hmb
      exact ⟨b, zb, hmb, hbj, ho⟩
theorem WR.turn {P : Program} {m : Mz} {h : Hp} {nx : Nat} {w w' : World} (hW : WR P m h nx w) {b : Nat} {k k' : Bk} {z : Cz} {cs cs' : Array Value} {fz fz' : Nat × Nat}
    (hb : h.get .dead b = .cells k) (hro : k.ro = false) (hst : k.st = false) (hB : BR P m w b k z cs fz)
    (hw1 : w'.heap[z.blk]? = some (.cells cs' k.e fz')) (hw2 : ∀ j, j ≠ z.blk → w'.heap[j]? = w.heap[j]?) (hsz : w'.heap.size = w.heap.size)
    (ho : w'.os = w.os) (ht : w'.tape = w.tape) (hp : w'.output = w.output) (hcs : cs'.size = cs.size) (keep : Nat) (hkeep : ∀ p, p < z.sh + keep → cs'[p]? = cs[p]?)
    (hB' : BR P m w' b k' z cs' fz') (hro' : k'.ro = false) (hst' : k'.st = false) {h' : Hp} (hgb : h'.get .dead b = .cells k')
    (hg : ∀ x, x ≠ b → h'.get .dead x = h.get .dead x ∨ h'.get .dead x = .dead)
    (hsh : ∀ x, x ≠ b → h'.get .dead x ≠ .dead → x ∈ k.anc → k.bnd ≤ keep ∧ x ∈ k'.anc ∧ k.bnd ≤ k'.bnd) : WR P m h' nx w' ∧ Evo m h w m h' w' := by
  have hlive : ∀ x, x ≠ b → h'.get .dead x ≠ .dead → h'.get .dead x = h.get .dead x := fun x hx hd => (hg x hx).resolve_right hd
  have hapb : ∀ x zx, x ≠ b → m x = some zx → h.get .dead x ≠ .dead → zx.blk = z.blk → ∃ kx, h.get .dead x = .cells kx ∧ x ∈ k.anc ∧ kx.st = true ∧ kx.fx = false ∧ zx.sh + kx.n ≤ z.sh + k.bnd := fun x zx hx hmx hd e => by
    have := hW.ap b x z zx hx hB.hm hmx hd
    rw [hb] at this
    exact this hro hst e
  refine ⟨⟨hW.gl, hW.fresh, fun x => ?_, ?_⟩, Le.refl m, ho, ht, hp, by rw [hsz]; exact Nat.le_refl _, ?_, ?_⟩
  · by_cases hx : x = b
    · subst hx; rw [hgb]; exact ⟨z, cs', fz', hB'⟩
    · by_cases hd : h'.get .dead x = .dead
      · rw [hd]; trivial
      · have e := hlive x hx hd
        have hd0 : h.get .dead x ≠ .dead := e ▸ hd
        obtain ⟨zx, hmx, _⟩ := (hW.rel x).there hd0
        by_cases hs : zx.blk = z.blk
        · obtain ⟨kx, hkx, hanc, hsx, hfx, hle⟩ := hapb x zx hx hmx hd0 hs
          have h3 := hsh x hx hd hanc
          have hrx := hW.rel x
          rw [hkx] at hrx
          obtain ⟨zx', csx, fzx, hX⟩ := hrx
          have hm2 := hX.hm; rw [hmx] at hm2; cases hm2
          have hpx := hX.hp
          rw [hs, hB.hp] at hpx
          obtain ⟨rfl, he1, rfl⟩ : cs = csx ∧ k.e = kx.e ∧ fz = fzx := by simpa using hpx
          rw [e, hkx]
          refine ⟨zx, cs', fz', hmx, ?_, by rw [hcs]; exact hX.sz, fun i hi => ?_, ?_, ?_, ?_, ?_⟩
          · rw [hs, hw1, he1]
          · obtain ⟨u, hu, hv⟩ := hX.here i hi
            refine ⟨u, ?_, hv⟩
            rw [hkeep _ (by omega)]; exact hu
          · intro hc; rw [hsx] at hc; cases hc
          · intro hc; rw [hfx] at hc; cases hc
          · intro hc; rw [hfx] at hc; cases hc
          · intro hc; rw [hfx] at hc; cases hc
        · rw [e]
          refine (hW.rel x).mono (Le.refl m) fun z' hm' _ => hw2 _ ?_
          rw [hmx] at hm'; cases hm'; exact hs
  · intro y x zy zx hx hmy hmx hd
    by_cases hyb : y = b
    · subst hyb
      rw [hgb]
      rw [hB.hm] at hmy; cases hmy
      intro _ _ e
      have e2 := hlive x hx hd
      have hd0 : h.get .dead x ≠ .dead := e2 ▸ hd
      obtain ⟨kx, hkx, hanc, hsx, hfx, hle⟩ := hapb x zx hx hmx hd0 e
      have h3 := hsh x hx hd hanc
      exact ⟨kx, by rw [e2]; exact hkx, h3.2.1, hsx, hfx, by omega⟩
    · by_cases hdy : h'.get .dead y = .dead
      · rw [hdy]; trivial
      · have ey := hlive y hyb hdy
        rw [ey]
        by_cases hxb : x = b
        · subst hxb
          have h4 := hW.ap y x zy zx hx hmy hmx (by rw [hb]; simp)
          rw [hb] at h4
          rw [hgb]
          rw [hB.hm] at hmx; cases hmx
          cases hoy : h.get .dead y with
          | cells ky =>
            rw [hoy] at h4
            intro a1 a2 a3
            obtain ⟨kx, hkx, hanc, hsx, _⟩ := h4 a1 a2 a3
            cases hkx; rw [hst] at hsx; cases hsx
          | dead => trivial
          | map es cl => rw [hoy] at h4; exact h4
          | siter s pos => rw [hoy] at h4; exact h4
          | loop lp => rw [hoy] at h4; exact h4
          | deferred => rw [hoy] at h4; exact h4
        · rw [hlive x hxb hd]
          exact hW.ap y x zy zx hx hmy hmx (by rw [← hlive x hxb hd]; exact hd)
  · intro j hj hn
    refine hw2 j fun e => hn ?_
    exact ⟨b, z, hB.hm, e.symm, by rw [hb]; exact hro⟩
  · rintro j hj ⟨y, zy, hmy, hyj, hoy⟩
    by_cases hyb : y = b
    · subst hyb
      exact ⟨y, zy, hmy, hyj, by rw [hb]; exact hro⟩
    · rcases hg y hyb with e | e
      · rw [e] at hoy; exact ⟨y, zy, hmy, hyj, hoy⟩
      · rw [e] at hoy; exact hoy.elim
end Ex
end Go.Proofs.YtdngjkjoahgelaaGreatDoor

namespace Go.Proofs.YtdngjkjoahgelaaGreatDoor
set_option linter.all false
namespace Ex
open Go.RowKit
theorem cond_some {α : Type} {c : Bool} {x : Option α} {v : α} (h : (bif c then x else none) = some v) : c = true ∧ x = some v := by
  cases c with
  | true => exact ⟨rfl, h⟩
  | false => cases h
theorem bind_some {α β : Type} {x : Option α} {f : α → Option β} {v : β} (h : x.bind f = some v) : ∃ a, x = some a ∧ f a = some v := Option.bind_eq_some_iff.1 h
theorem map_some {α β : Type} {x : Option α} {f : α → β} {v : β} (h : x.map f = some v) : ∃ a, x = some a ∧ f a = v := Option.map_eq_some_iff.1 h
theorem ofV_list {m : Mz} {f : Value → Option AV} (hf : ∀ v x, f v = some x → VR m x v) : ∀ (cs : List Value) (l : List AV), cs.mapM f = some l → VRL m l cs
  | [], l, h => by simp at h; subst h; exact .nil
  | c :: cs, l, h => by
    simp only [List.mapM_cons, Option.bind_eq_bind, Option.bind_eq_some_iff] at h
    obtain ⟨x, hx, ys, hys, h⟩ := h
    cases h
    exact .cons (hf _ _ hx) (ofV_list hf cs ys hys)
theorem ofV_ok (m : Mz) : ∀ (n : Nat) (v : Value) (x : AV), ofV n v = some x → VR m x v
  | 0, v, x, h => by cases h
  | n + 1, v, x, h => by
    cases v with
    | bool b => cases h; exact .bool b
    | int k z => cases h; exact .int k z
    | string s => cases h; exact .str _
    | pointer a => cases a with
      | none => cases h; exact .nilp
      | some a => cases h
    | slice a l c =>
      cases a with
      | some a => cases h
      | none =>
        cases l with
        | zero => cases c with
          | zero => cases h; exact .nils
          | succ c => cases h
        | succ l => cases h
    | map r => cases r with
      | none => cases h; exact .nilm
      | some a => cases h
    | nilFunc => cases h; exact .nilf
    | nilIface => cases h; exact .nili
    | iface t v =>
      obtain ⟨y, hy, rfl⟩ := map_some h
      exact .iface t (ofV_ok m n v y hy)
    | agg cs =>
      obtain ⟨y, hy, rfl⟩ := map_some h
      exact .agg (ofV_list (fun v x => ofV_ok m n v x) _ _ hy)
    | tuple cs =>
      obtain ⟨y, hy, rfl⟩ := map_some h
      exact .tup (ofV_list (fun v x => ofV_ok m n v x) _ _ hy)
    | float k b => cases h
    | complex k a b => cases h
    | chan r => cases h
    | func f a b => cases h
section
variable {P : Program} {m : Mz} {h : Hp} {nx : Nat} {w : World} {fr : Fm} {a : Act} {sz : Nat}
theorem evA_ok (hW : WR P m h nx w) (hF : FR m fr a.tmps sz) {x : Operand} {v : AV} (he : evA fr x = some v) : VR m v (a.eval x) := by
  cases x with
  | tmp t => cases he; exact hF.slot t
  | const c => exact ofV_ok m 10 c v he
  | global g =>
    obtain ⟨hg, he⟩ := cond_some (x := some (AV.ptr g 0)) he
    cases he
    have hg' : g < 1000 := by simpa using hg
    have := VR.ptr (m := m) 0 (hW.gl g hg')
    exact this
  | func f => cases he; exact .fn (.func f) .nil .nil
theorem consO_some {α : Type} {x : Option α} {l : Option (List α)} {r : List α} (he : consO x l = some r) : ∃ y ys, x = some y ∧ l = some ys ∧ r = y :: ys := by
  cases x with
  | none => cases he
  | some y => cases l with
    | none => cases he
    | some ys => cases he; exact ⟨y, ys, rfl, rfl, rfl⟩
theorem evL_cons (fr : Fm) (x : Operand) (l : List Operand) : evL fr (x :: l) = consO (evA fr x) (evL fr l) := rfl
theorem evL_ok (hW : WR P m h nx w) (hF : FR m fr a.tmps sz) : ∀ {l : List Operand} {vs : List AV}, evL fr l = some vs → VRL m vs (l.map a.eval)
  | [], vs, he => by cases he; exact .nil
  | x :: l, vs, he => by
    rw [evL_cons] at he
    obtain ⟨y, ys, h1, h2, rfl⟩ := consO_some he
    exact .cons (evA_ok hW hF h1) (evL_ok hW hF h2)
theorem run_under {t : TypeId} {u : TypeDesc} (hu : P.underlying t = some u) (w : World) : (underlying t).run P w = .ok u w := run_underlying hu w
theorem sizeT_some {t : TypeId} {n : Nat} (hs : sizeT P t = some n) : ∃ i, P.info? t = some i ∧ i.size = n := by
  obtain ⟨i, hi, rfl⟩ := map_some hs; exact ⟨i, hi, rfl⟩
theorem run_sizeOf {t : TypeId} {n : Nat} (hs : sizeT P t = some n) (w : World) : (sizeOf t).run P w = .ok n w := by
  obtain ⟨i, hi, rfl⟩ := sizeT_some hs
  simp [sizeOf, typeInfo, hi]
theorem cellsOf_eq {t : TypeId} {n : Nat} (hs : sizeT P t = some n) : P.cellsOf t = n := by
  obtain ⟨i, hi, rfl⟩ := sizeT_some hs
  simp [Program.cellsOf, hi]
theorem run_isAgg {t : TypeId} {g : Bool} (hg : aggT P t = some g) (w : World) : (isAgg t).run P w = .ok g w := by
  obtain ⟨u, hu, rfl⟩ := map_some hg
  cases u <;> simp [isAgg, run_underlying hu, aggD]
theorem run_zero {t : TypeId} {x : AV} (hz : zeroT P t = some x) : ∃ i v, P.info? t = some i ∧ i.zero = some v ∧ ofV 10 v = some x ∧ ∀ w, (zeroValue t).run P w = .ok v w := by
  obtain ⟨i, hi, hz⟩ := bind_some hz
  obtain ⟨v, hv, hx⟩ := bind_some hz
  exact ⟨i, v, hi, hv, hx, fun w => by simp [zeroValue, typeInfo, hi, hv]⟩
theorem getBk_some {b : Nat} {k : Bk} (hb : getBk h b = some k) : h.get .dead b = .cells k := by
  unfold getBk bkO at hb
  cases hx : h.get .dead b with
  | cells k' => rw [hx] at hb; cases hb; rfl
  | _ => rw [hx] at hb; cases hb
theorem WR.bk (hW : WR P m h nx w) {b : Nat} {k : Bk} (hb : getBk h b = some k) : ∃ z cs fz, BR P m w b k z cs fz := by
  have := hW.rel b
  rw [getBk_some hb] at this
  exact this
theorem BR.cell {b : Nat} {k : Bk} {z : Cz} {cs : Array Value} {fz : Nat × Nat} (hB : BR P m w b k z cs fz) (j : Nat) : w.cell? ⟨z.blk, j, none⟩ = cs[j]? := cell_of_row w z.blk j cs k.e fz hB.hp
theorem addr_add (g off j : Nat) : (⟨g, off, none⟩ : Addr).add j = ⟨g, off + j, none⟩ := by unfold Addr.add; split <;> simp_all
theorem loadCell_ok (hW : WR P m h nx w) {b i : Nat} {v : AV} (hl : loadCell h b i = some v) : ∃ z u, m b = some z ∧ w.cell? ⟨z.blk, z.sh + i, none⟩ = some u ∧ VR m v u := by
  obtain ⟨k, hk, hl⟩ := bind_some hl
  obtain ⟨hi, hl⟩ := cond_some hl
  cases hl
  obtain ⟨z, cs, fz, hB⟩ := hW.bk hk
  obtain ⟨u, hu, hv⟩ := hB.here i (by simpa using hi)
  exact ⟨z, u, hB.hm, by rw [hB.cell]; exact hu, hv⟩
theorem loadN_ok (hW : WR P m h nx w) {b o n : Nat} {l : List AV} (hl : loadN h b o n = some l) : ∃ z us, m b = some z ∧ us.length = n ∧ VRL m l us ∧ (∀ j u, us[j]? = some u → w.cell? ⟨z.blk, z.sh + o + j, none⟩ = some u) := by
  obtain ⟨k, hk, hl⟩ := bind_some hl
  obtain ⟨hi, hl⟩ := cond_some hl
  cases hl
  have hi : o + n ≤ k.n := by have := hi; simpa using this
  obtain ⟨z, cs, fz, hB⟩ := hW.bk hk
  refine ⟨z, (cs.toList.drop (z.sh + o)).take n, hB.hm, ?_, ?_, ?_⟩
  · have := hB.sz
    rw [List.length_take, List.length_drop, Array.length_toList]; omega
  · refine VRL.of_get ?_ fun i v hv => ?_
    · rw [listOf_len, List.length_take, List.length_drop, Array.length_toList]
      have := hB.sz; omega
    · have hin : i < n := by
        rcases Nat.lt_or_ge i n with h' | h'
        · exact h'
        · rw [List.getElem?_eq_none (by rw [listOf_len]; exact h')] at hv; cases hv
      rw [listOf_get _ _ _ _ _ hin] at hv
      cases hv
      obtain ⟨u, hu, hvr⟩ := hB.here (o + i) (by omega)
      refine ⟨u, ?_, hvr⟩
      rw [List.getElem?_take, if_pos hin, List.getElem?_drop, Array.getElem?_toList, Nat.add_assoc]
      exact hu
  · intro j u hu
    rw [List.getElem?_take] at hu
    split at hu
    · rw [List.getElem?_drop, Array.getElem?_toList] at hu
      rw [hB.cell]; exact hu
    · cases hu
theorem run_loadCells_us {z : Cz} {o n : Nat} {us : List Value} (hn : us.length = n) (hc : ∀ j u, us[j]? = some u → w.cell? ⟨z.blk, z.sh + o + j, none⟩ = some u) : (loadCells ⟨z.blk, z.sh + o, none⟩ n).run P w = .ok us.toArray w := by
  subst hn
  exact run_loadCells_list (P := P) w ⟨z.blk, z.sh + o, none⟩ us fun j v hv => by rw [addr_add]; exact hc j v hv
theorem loadV_ok (hW : WR P m h nx w) {t : TypeId} {b o : Nat} {v : AV} (hl : loadV P h t b o = some v) : ∃ z u, m b = some z ∧ (loadVar t ⟨z.blk, z.sh + o, none⟩).run P w = .ok u w ∧ VR m v u := by
  obtain ⟨g, hg, hl⟩ := bind_some hl
  cases g with
  | true =>
    have hl1 : ((sizeT P t).bind (loadN h b o)).map .agg = some v := hl
    obtain ⟨l, hl2, rfl⟩ := map_some hl1
    obtain ⟨n, hn, hl3⟩ := bind_some hl2
    obtain ⟨z, us, hz, hlen, hv, hc⟩ := loadN_ok hW hl3
    refine ⟨z, .agg us.toArray, hz, ?_, .agg (by simpa using hv)⟩
    simp [loadVar, run_isAgg hg, run_sizeOf hn, run_loadCells_us hlen hc]
  | false =>
    obtain ⟨z, u, hz, hc, hv⟩ := loadCell_ok hW (show loadCell h b o = some v from hl)
    exact ⟨z, u, hz, by simp [loadVar, run_isAgg hg, hc], hv⟩
theorem run_storeCells_z (P : Program) (g o : Nat) (t : TypeId) (fz : Nat × Nat) : ∀ (vs : List Value) (i : Nat) (cur : Array Value) (w : World), w.heap[g]? = some (.cells cur t fz) → (∀ j, o + i ≤ j → j < cur.size → ¬ (fz.1 ≤ j ∧ j < fz.2)) → o + i + vs.length ≤ cur.size → (∀ v ∈ vs, v.oneCell' = true) →
    (storeCells ⟨g, o, none⟩ vs i).run P w = .ok () (w.setRow g (cur.toList.take (o + i) ++ vs ++ cur.toList.drop (o + i + vs.length)).toArray)
  | [], i, cur, w, hg, _, _, _ => by
    simp only [storeCells, List.append_nil, List.length_nil, Nat.add_zero, List.take_append_drop, Array.toArray_toList]
    rw [setRow_self w g cur t fz hg]
    rfl
  | v :: rest, i, cur, w, hg, hfz, hl, h1 => by
    have hi : o + i < cur.size := by simp at hl; omega
    have hcell : w.cell? ⟨g, o + i, none⟩ = some cur[o + i] := by simp [World.cell?, hg, hi]
    have hfro : w.frozen? ⟨g, o + i, none⟩ = false := by
      have h3 := hfz (o + i) (Nat.le_refl _) hi
      obtain ⟨lo, hi'⟩ := fz
      simp only [World.frozen?, hg, Bool.and_eq_false_iff, decide_eq_false_iff_not]
      simp only at h3
      omega
    have hst : (store ((⟨g, o, none⟩ : Addr).add i) v).run P w = .ok () (w.setRow g (cur.setIfInBounds (o + i) v)) := by
      rw [addr_add, run_store P w _ v _ (h1 v (by simp)), hcell]
      simp [hfro, setCell_eq_setRow w g (o + i) cur t fz v hg]
    have ih := run_storeCells_z P g o t fz rest (i + 1) (cur.setIfInBounds (o + i) v) (w.setRow g (cur.setIfInBounds (o + i) v)) (setRow_heap w g cur _ t _ hg) (fun j h1 h2 => hfz j (by omega) (by simpa using h2)) (by simp at hl ⊢; omega) (fun x hx => h1 x (by simp [hx]))
    simp only [storeCells, Sem.run_bind, hst, Result.andThen_ok, ih, setRow_setRow]
    congr 3
    have e := list_seg_step cur.toList (o + i) v rest (by simp at hl ⊢; omega)
    simpa [Array.toList_setIfInBounds, Nat.add_assoc] using e
theorem kill_get (b : Nat) : ∀ (l : List Nat) (h : Hp), (kill l h).get .dead b = if b ∈ l then .dead else h.get .dead b
  | [], h => by simp [kill]
  | x :: l, h => by
    show (kill l (h.set .dead x .dead)).get .dead b = _
    rw [kill_get b l, Tr.get_set]
    by_cases h1 : b ∈ l
    · simp [h1]
    · by_cases h2 : b = x
      · simp [h2]
      · simp [h1, h2]
theorem all_one : ∀ {l : List AV} {us : List Value}, l.all oneA = true → VRL m l us → ∀ u ∈ us, u.oneCell' = true
  | _, _, _, .nil => by simp
  | _, _, hl, .cons h1 h2 => by
    simp only [List.all_cons, Bool.and_eq_true] at hl
    intro u hu
    rcases List.mem_cons.1 hu with rfl | hu
    · exact oneA_of h1 hl.1
    · exact all_one hl.2 h2 u hu
theorem seg_get (cs : List Value) (us : List Value) (p i : Nat) (hp : p + us.length ≤ cs.length) : (cs.take p ++ us ++ cs.drop (p + us.length))[i]? = if i < p then cs[i]? else if i < p + us.length then us[i - p]? else cs[i]? := by
  by_cases h1 : i < p
  · rw [if_pos h1, List.append_assoc, List.getElem?_append_left (by rw [List.length_take]; omega), List.getElem?_take, if_pos h1]
  · rw [if_neg h1]
    by_cases h2 : i < p + us.length
    · rw [if_pos h2, List.append_assoc, List.getElem?_append_right (by rw [List.length_take]; omega), List.length_take, Nat.min_eq_left (by omega), List.getElem?_append_left (by omega)]
    · rw [if_neg h2, List.getElem?_append_right (by simp; omega), List.getElem?_drop]
      congr 1
      simp; omega
theorem storeN_ok (hW : WR P m h nx w) {b o : Nat} {l : List AV} {h' : Hp} (hs : storeN h b o l = some h') {us : List Value} (hv : VRL m l us) :
    ∃ z w', m b = some z ∧ (storeCells ⟨z.blk, z.sh + o, none⟩ us).run P w = .ok () w' ∧ WR P m h' nx w' ∧ Evo m h w m h' w' := by
  obtain ⟨k, hk, hs⟩ := bind_some hs
  obtain ⟨hok, hs⟩ := cond_some hs
  cases hs
  obtain ⟨hone, hmay⟩ := Bool.and_eq_true_iff.1 hok
  rw [lenL_eq] at hmay
  have hmay' : (((!k.ro) = true ∧ (!k.st) = true) ∧ Nat.ble (Nat.add o l.length) k.n = true) ∧ Nat.ble k.fz o = true := by
    unfold Bk.mayPut at hmay; simpa only [Bool.and_eq_true] using hmay
  obtain ⟨⟨⟨hro, hst⟩, hle⟩, hfz⟩ := hmay'
  have hro : k.ro = false := by simpa using hro
  have hst : k.st = false := by simpa using hst
  have hle : o + l.length ≤ k.n := Nat.le_of_ble_eq_true hle
  have hfz : k.fz ≤ o := Nat.le_of_ble_eq_true hfz
  obtain ⟨z, cs, fz, hB⟩ := hW.bk hk
  have hlen := hv.length
  have hsz := hB.sz
  have hrun := run_storeCells_z P z.blk (z.sh + o) k.e fz us 0 cs w hB.hp (fun j h1 h2 => hB.fr hst j (by omega) h2) (by omega) (all_one hone hv)
  simp only [Nat.add_zero] at hrun
  obtain ⟨cs', hcs'⟩ : ∃ cs', (cs.toList.take (z.sh + o) ++ us ++ cs.toList.drop (z.sh + o + us.length)).toArray = cs' := ⟨_, rfl⟩
  rw [hcs'] at hrun
  have hget : ∀ i, cs'[i]? = if i < z.sh + o then cs[i]? else if i < z.sh + o + us.length then us[i - (z.sh + o)]? else cs[i]? := fun i => by
    have hcl : cs.toList.length = cs.size := Array.length_toList
    rw [← hcs', List.getElem?_toArray, seg_get cs.toList us (z.sh + o) i (by omega)]
    simp only [Array.getElem?_toList]
  have hsz' : cs'.size = cs.size := by
    rw [← hcs']; simp; omega
  have hhere : ∀ i, i < k.n → ∃ u, cs'[z.sh + i]? = some u ∧ VR m ((treeOf k.d l o k.t).get k.d i) u := by
    intro i hi
    obtain ⟨u0, hu0, hv0⟩ := hB.here i hi
    rw [hget, treeOf_get]
    by_cases h1 : o ≤ i
    · rw [if_neg (by omega), if_pos h1]
      by_cases h2 : i < o + us.length
      · rw [if_pos (by omega), show z.sh + i - (z.sh + o) = i - o by omega]
        obtain ⟨v, hv1⟩ : ∃ v, l[i - o]? = some v := ⟨_, List.getElem?_eq_getElem (by omega)⟩
        obtain ⟨u, hu, hvu⟩ := hv.get (i - o) v hv1
        exact ⟨u, hu, by rw [hv1]; exact hvu⟩
      · rw [if_neg (by omega), List.getElem?_eq_none (by omega)]
        exact ⟨u0, hu0, hv0⟩
    · rw [if_pos (by omega), if_neg h1]
      exact ⟨u0, hu0, hv0⟩
  have hmk : ∀ anc bnd, BR P m (w.setRow z.blk cs') b (k.put o l anc bnd) z cs' fz := fun anc bnd =>
    ⟨hB.hm, setRow_heap w z.blk cs cs' k.e fz hB.hp, by rw [hsz']; exact hB.sz, hhere, fun h0 => by rw [hsz']; exact hB.fr h0, hB.fx, fun h0 h1 => by rw [hsz']; exact hB.whole h0 h1, hB.bare⟩
  refine ⟨z, _, hB.hm, hrun, ?_⟩
  show WR P m (putIn h b o l k) nx _ ∧ Evo m h w m (putIn h b o l k) _
  unfold putIn
  by_cases hc : (isNilL k.anc || Nat.ble k.bnd o) = true
  · rw [hc]
    refine hW.turn (k' := k.put o l k.anc k.bnd) (getBk_some hk) hro hst hB (setRow_heap w z.blk cs cs' k.e fz hB.hp) (fun j hj => setRow_other w z.blk j cs' hj) (by simp) rfl rfl rfl hsz' o (fun p hp => ?_) (hmk _ _) hro hst ?_ ?_ ?_
    · rw [hget, if_pos (by omega)]
    · show ((h.set .dead b _).get .dead b) = _; rw [Tr.get_set, if_pos rfl]
    · intro x hx; left; show ((h.set .dead b _).get .dead x) = _; rw [Tr.get_set, if_neg hx]
    · intro x hx hd hanc
      rcases Bool.or_eq_true_iff.1 hc with hc | hc
      · have : k.anc = [] := by
          cases ha : k.anc with
          | nil => rfl
          | cons a b => rw [ha] at hc; cases hc
        rw [this] at hanc; cases hanc
      · exact ⟨Nat.le_of_ble_eq_true hc, hanc, Nat.le_refl _⟩
  · have hc' : (isNilL k.anc || Nat.ble k.bnd o) = false := Bool.not_eq_true _ ▸ hc
    rw [hc']
    refine hW.turn (k' := k.put o l [] 0) (getBk_some hk) hro hst hB (setRow_heap w z.blk cs cs' k.e fz hB.hp) (fun j hj => setRow_other w z.blk j cs' hj) (by simp) rfl rfl rfl hsz' 0 (fun p hp => ?_) (hmk _ _) hro hst ?_ ?_ ?_
    · rw [hget, if_pos (by omega)]
    · show (((kill k.anc h).set .dead b _).get .dead b) = _; rw [Tr.get_set, if_pos rfl]
    · intro x hx
      have e : ((kill k.anc h).set .dead b (.cells (k.put o l [] 0))).get .dead x = if x ∈ k.anc then .dead else h.get .dead x := by rw [Tr.get_set, if_neg hx, kill_get]
      show (((kill k.anc h).set .dead b _).get .dead x) = _ ∨ _
      by_cases hm : x ∈ k.anc
      · right; show ((kill k.anc h).set .dead b _).get .dead x = _; rw [e, if_pos hm]
      · left; rw [e, if_neg hm]
    · intro x hx hd hanc
      exfalso; apply hd
      show ((kill k.anc h).set .dead b _).get .dead x = _
      rw [Tr.get_set, if_neg hx, kill_get, if_pos hanc]
theorem storeV_ok (hW : WR P m h nx w) {t : TypeId} {b o : Nat} {v : AV} {h' : Hp} (hs : storeV P h t b o v = some h') {u : Value} (hv : VR m v u) :
    ∃ z w', m b = some z ∧ (storeVar t ⟨z.blk, z.sh + o, none⟩ u).run P w = .ok () w' ∧ WR P m h' nx w' ∧ Evo m h w m h' w' := by
  obtain ⟨n, hn, hs⟩ := bind_some hs
  obtain ⟨hl, hs⟩ := cond_some hs
  rw [lenL_eq] at hl
  have hl : v.cells.length = n := Nat.eq_of_beq_eq_true hl
  obtain ⟨z, w', hz, hrun, hW', hE⟩ := storeN_ok hW hs hv.cells
  have hlen := hv.cells.length
  refine ⟨z, w', hz, ?_, hW', hE⟩
  have : u.cells.size = n := by rw [← Array.length_toList, ← hlen, hl]
  simp [storeVar, run_sizeOf hn, this, hrun]
end
end Ex
end Go.Proofs.YtdngjkjoahgelaaGreatDoor

namespace Go.Proofs.YtdngjkjoahgelaaGreatDoor
set_option linter.all false
namespace Ex
open Go.RowKit
theorem wrap_small (k : IntKind) (n : Nat) (h : n < topK k) : k.wrap (n : Int) = n := by
  cases k <;> simp only [topK] at h <;> simp [IntKind.wrap, IntKind.signed, IntKind.bits] <;> omega
theorem blt_eq (a b : Nat) : Nat.blt a b = decide (a < b) := by
  rw [Bool.eq_iff_iff, decide_eq_true_iff]
  exact ⟨fun h => Nat.le_of_ble_eq_true h, fun h => Nat.ble_eq_true_of_le h⟩
theorem ble_eq (a b : Nat) : Nat.ble a b = decide (a ≤ b) := by
  rw [Bool.eq_iff_iff, decide_eq_true_iff]
  exact ⟨fun h => Nat.le_of_ble_eq_true h, fun h => Nat.ble_eq_true_of_le h⟩
theorem beq_eq (a b : Nat) : Nat.beq a b = decide (a = b) := by
  rw [Bool.eq_iff_iff, decide_eq_true_iff]
  exact ⟨fun h => Nat.eq_of_beq_eq_true h, fun h => by subst h; exact Nat.beq_refl a⟩
theorem wrapZ_eq (k : IntKind) (z : Int) : wrapZ k z = k.wrap z := by
  cases z with
  | ofNat n =>
    show wrapN k n = _
    unfold wrapN
    rw [blt_eq]
    by_cases h : n < topK k
    · rw [decide_eq_true h]; exact (wrap_small k n h).symm
    · rw [decide_eq_false h]; rfl
  | negSucc n => rfl
theorem ltZ_eq (a b : Int) : ltZ a b = decide (a < b) := by
  cases a <;> cases b <;> simp only [ltZ, blt_eq]
  · rename_i a b; congr 1; simp only [Int.ofNat_eq_natCast]; rw [eq_iff_iff]; omega
  · rename_i a b; symm; rw [decide_eq_false_iff_not]; simp only [Int.ofNat_eq_natCast]; omega
  · rename_i a b; symm; rw [decide_eq_true_iff]; simp only [Int.ofNat_eq_natCast]; omega
  · rename_i a b; congr 1; rw [eq_iff_iff]; omega
theorem eqZ_eq (a b : Int) : eqZ a b = (a == b) := by
  have e : (a == b) = decide (a = b) := by rw [Bool.eq_iff_iff]; simp
  rw [e]
  cases a <;> cases b <;> simp only [eqZ, beq_eq]
  · rename_i a b; congr 1; simp only [Int.ofNat_eq_natCast]; rw [eq_iff_iff]; omega
  · rename_i a b; symm; rw [decide_eq_false_iff_not]; simp only [Int.ofNat_eq_natCast]; omega
  · rename_i a b; symm; rw [decide_eq_false_iff_not]; simp only [Int.ofNat_eq_natCast]; omega
  · rename_i a b; congr 1; rw [eq_iff_iff]; omega
theorem le_not_lt (a b : Int) : (!ltZ b a) = decide (a ≤ b) := by
  rw [ltZ_eq]; by_cases h : b < a
  · simp [h]
  · simp [h]; omega
theorem topK_pow (k : IntKind) : ∃ e, topK k = 2 ^ e ∧ e < k.bits := by
  cases k
  · exact ⟨7, rfl, by decide⟩
  · exact ⟨7, rfl, by decide⟩
  · exact ⟨31, rfl, by decide⟩
  · exact ⟨63, rfl, by decide⟩
  · exact ⟨7, rfl, by decide⟩
  · exact ⟨7, rfl, by decide⟩
  · exact ⟨31, rfl, by decide⟩
  · exact ⟨63, rfl, by decide⟩
theorem ofInt_nat (n a : Nat) : BitVec.ofInt n (Int.ofNat a) = BitVec.ofNat n a := by
  apply BitVec.eq_of_toNat_eq; simp
theorem bits_small {k : IntKind} {a : Nat} (h : a < topK k) : (BitVec.ofInt k.bits (Int.ofNat a)).toNat = a := by
  obtain ⟨e, he, hb⟩ := topK_pow k
  rw [ofInt_nat, BitVec.toNat_ofNat]
  refine Nat.mod_eq_of_lt (Nat.lt_trans h ?_)
  rw [he]; exact Nat.pow_lt_pow_right (by decide) hb
theorem bitsF_and (k : IntKind) (x y : Int) : bitsF Nat.land andG k x y = andG k x y := by
  cases x <;> cases y <;> try rfl
  rename_i a b
  show (bif Nat.blt a (topK k) && Nat.blt b (topK k) then Int.ofNat (Nat.land a b) else andG k (Int.ofNat a) (Int.ofNat b)) = _
  by_cases h : a < topK k ∧ b < topK k
  · rw [blt_eq, blt_eq, decide_eq_true h.1, decide_eq_true h.2]
    show Int.ofNat (a &&& b) = k.wrap ((BitVec.ofInt k.bits (Int.ofNat a) &&& BitVec.ofInt k.bits (Int.ofNat b)).toNat : Int)
    rw [BitVec.toNat_and, bits_small h.1, bits_small h.2, wrap_small k _ (Nat.lt_of_le_of_lt Nat.and_le_left h.1)]
    rfl
  · have : (Nat.blt a (topK k) && Nat.blt b (topK k)) = false := by rw [blt_eq, blt_eq]; simp; omega
    rw [this]; rfl
theorem bitsF_or (k : IntKind) (x y : Int) : bitsF Nat.lor orG k x y = orG k x y := by
  cases x <;> cases y <;> try rfl
  rename_i a b
  show (bif Nat.blt a (topK k) && Nat.blt b (topK k) then Int.ofNat (Nat.lor a b) else orG k (Int.ofNat a) (Int.ofNat b)) = _
  by_cases h : a < topK k ∧ b < topK k
  · rw [blt_eq, blt_eq, decide_eq_true h.1, decide_eq_true h.2]
    show Int.ofNat (a ||| b) = k.wrap ((BitVec.ofInt k.bits (Int.ofNat a) ||| BitVec.ofInt k.bits (Int.ofNat b)).toNat : Int)
    obtain ⟨e, he, _⟩ := topK_pow k
    rw [BitVec.toNat_or, bits_small h.1, bits_small h.2, wrap_small k _ (by rw [he] at h ⊢; exact Nat.or_lt_two_pow h.1 h.2)]
    rfl
  · have : (Nat.blt a (topK k) && Nat.blt b (topK k)) = false := by rw [blt_eq, blt_eq]; simp; omega
    rw [this]; rfl
theorem bitsF_xor (k : IntKind) (x y : Int) : bitsF Nat.xor xorG k x y = xorG k x y := by
  cases x <;> cases y <;> try rfl
  rename_i a b
  show (bif Nat.blt a (topK k) && Nat.blt b (topK k) then Int.ofNat (Nat.xor a b) else xorG k (Int.ofNat a) (Int.ofNat b)) = _
  by_cases h : a < topK k ∧ b < topK k
  · rw [blt_eq, blt_eq, decide_eq_true h.1, decide_eq_true h.2]
    show Int.ofNat (a ^^^ b) = k.wrap ((BitVec.ofInt k.bits (Int.ofNat a) ^^^ BitVec.ofInt k.bits (Int.ofNat b)).toNat : Int)
    obtain ⟨e, he, _⟩ := topK_pow k
    rw [BitVec.toNat_xor, bits_small h.1, bits_small h.2, wrap_small k _ (by rw [he] at h ⊢; exact Nat.xor_lt_two_pow h.1 h.2)]
    rfl
  · have : (Nat.blt a (topK k) && Nat.blt b (topK k)) = false := by rw [blt_eq, blt_eq]; simp; omega
    rw [this]; rfl
theorem pow_min (k : IntKind) (n : Nat) : (Int.ofNat (Nat.pow 2 (Nat.min n k.bits))) = (2 : Int) ^ (min n k.bits) := by
  show ((2 ^ (min n k.bits) : Nat) : Int) = _
  simp
theorem binInts_ok {P : Program} {op : BinOp} {k k' : IntKind} {x y : Int} {v : AV} (h : binInts op k k' x y = some v) (m : Mz) (t : TypeId) (w : World) :
    ∃ u, (Go.binOp op t (.int k x) (.int k' y)).run P w = .ok u w ∧ VR m v u := by
  by_cases hsh : op = .shl ∨ op = .shr
  · rcases hsh with rfl | rfl
    · obtain ⟨n, hn, h⟩ := bind_some (show (natZ y).bind (shlN k x) = some v from h)
      cases y with
      | negSucc y => cases hn
      | ofNat y =>
        obtain rfl : y = n := Option.some.inj hn
        cases h
        refine ⟨_, ?_, .int k _⟩
        rw [wrapZ_eq, pow_min]
        simp only [Go.binOp, Op.shift, Int.ofNat_eq_natCast]
        rw [if_neg (by omega)]
        simp
    · obtain ⟨n, hn, h⟩ := bind_some (show (natZ y).bind (shrN k x) = some v from h)
      cases y with
      | negSucc y => cases hn
      | ofNat y =>
        obtain rfl : y = n := Option.some.inj hn
        have e : (Go.binOp .shr t (.int k x) (.int k' (Int.ofNat y))).run P w = .ok (.int k (x.fdiv (2 ^ (min y k.bits)))) w := by
          simp only [Go.binOp, Op.shift, Int.ofNat_eq_natCast]
          rw [if_neg (by omega)]
          simp
        refine ⟨_, e, ?_⟩
        cases x with
        | ofNat x =>
          cases h
          have : (Int.ofNat x).fdiv (2 ^ (min y k.bits)) = Int.ofNat (Nat.div x (Nat.pow 2 (Nat.min y k.bits))) := by
            rw [← pow_min]; exact (Int.ofNat_fdiv x _).symm
          rw [this]; exact .int k _
        | negSucc x =>
          cases h
          rw [pow_min]; exact .int k _
  · have hb : (bif sameK k k' then binI op k x y else none) = some v := by
      cases op <;> first | exact h | exact absurd (.inl rfl) hsh | exact absurd (.inr rfl) hsh
    obtain ⟨hk, hb1⟩ := cond_some hb
    have hkk : k = k' := by simpa [sameK] using hk
    subst hkk
    clear hb hk
    have hq : ∀ {c : Bool} {z : Option AV}, (bif c then none else z) = some v → c = false ∧ z = some v := fun {c z} hc => by cases c <;> first | exact ⟨rfl, hc⟩ | cases hc
    cases op
    case shl => exact absurd (.inl rfl) hsh
    case shr => exact absurd (.inr rfl) hsh
    case add => cases hb1; exact ⟨.int k (k.wrap (x + y)), by simp [Go.binOp, Op.intArith], by rw [wrapZ_eq]; exact .int k _⟩
    case sub => cases hb1; exact ⟨.int k (k.wrap (x - y)), by simp [Go.binOp, Op.intArith], by rw [wrapZ_eq]; exact .int k _⟩
    case mul => cases hb1; exact ⟨.int k (k.wrap (x * y)), by simp [Go.binOp, Op.intArith], by rw [wrapZ_eq]; exact .int k _⟩
    case quo =>
      obtain ⟨h0, h1⟩ := hq (show (bif eqZ y (Int.ofNat 0) then none else iInt k (wrapZ k (Int.tdiv x y))) = some v from hb1)
      cases h1
      have h0 : ¬ y = 0 := by rw [eqZ_eq] at h0; simpa using h0
      exact ⟨.int k (k.wrap (x.tdiv y)), by simp [Go.binOp, Op.intDiv, h0], by rw [wrapZ_eq]; exact .int k _⟩
    case rem =>
      obtain ⟨h0, h1⟩ := hq (show (bif eqZ y (Int.ofNat 0) then none else iInt k (Int.tmod x y)) = some v from hb1)
      cases h1
      have h0 : ¬ y = 0 := by rw [eqZ_eq] at h0; simpa using h0
      exact ⟨.int k (x.tmod y), by simp [Go.binOp, Op.intDiv, h0], .int k _⟩
    case and => cases hb1; exact ⟨.int k (andG k x y), by simp [Go.binOp, Op.intBits, andG], by rw [bitsF_and]; exact .int k _⟩
    case or => cases hb1; exact ⟨.int k (orG k x y), by simp [Go.binOp, Op.intBits, orG], by rw [bitsF_or]; exact .int k _⟩
    case xor => cases hb1; exact ⟨.int k (xorG k x y), by simp [Go.binOp, Op.intBits, xorG], by rw [bitsF_xor]; exact .int k _⟩
    case andNot => cases hb1; exact ⟨.int k (andNotG k x y), by simp [Go.binOp, Op.intBits, andNotG], .int k _⟩
    case eql => cases hb1; exact ⟨.bool (x == y), by simp [Go.binOp, Op.intCmp], by rw [eqZ_eq]; exact .bool _⟩
    case neq => cases hb1; exact ⟨.bool (x != y), by simp [Go.binOp, Op.intCmp], by rw [eqZ_eq]; exact .bool _⟩
    case lss => cases hb1; exact ⟨.bool (x < y), by simp [Go.binOp, Op.intCmp], by rw [ltZ_eq]; exact .bool _⟩
    case leq => cases hb1; exact ⟨.bool (x ≤ y), by simp [Go.binOp, Op.intCmp], by rw [le_not_lt]; exact .bool _⟩
    case gtr => cases hb1; exact ⟨.bool (x > y), by simp [Go.binOp, Op.intCmp], by rw [ltZ_eq]; exact .bool _⟩
    case geq => cases hb1; exact ⟨.bool (x ≥ y), by simp [Go.binOp, Op.intCmp], by rw [le_not_lt]; exact .bool _⟩
theorem n8_eq (u : UInt8) : n8 u = u.toNat := rfl
theorem eqS_eq : ∀ (s t : List UInt8), eqS s t = (s == t)
  | [], [] => rfl
  | [], _ :: _ => rfl
  | _ :: _, [] => rfl
  | a :: s, b :: t => by
    show (bif Nat.beq (n8 a) (n8 b) then eqS s t else false) = _
    rw [eqS_eq s t, beq_eq, n8_eq, n8_eq]
    by_cases h : a = b
    · subst h; simp
    · have : ¬ a.toNat = b.toNat := fun e => h (UInt8.toNat.inj e)
      simp [h, this]
theorem ltS_eq : ∀ (s t : List UInt8), ltS s t = Op.bytesLess s t
  | [], [] => rfl
  | [], _ :: _ => rfl
  | _ :: _, [] => rfl
  | a :: s, b :: t => by
    show (bif Nat.blt (n8 a) (n8 b) then true else bif Nat.beq (n8 a) (n8 b) then ltS s t else false) = _
    rw [ltS_eq s t, beq_eq, blt_eq, n8_eq, n8_eq, Op.bytesLess]
    have e1 : (decide (a < b) : Bool) = decide (a.toNat < b.toNat) := by congr 1
    have e2 : (a == b) = decide (a.toNat = b.toNat) := by
      by_cases h : a = b
      · subst h; simp
      · have : ¬ a.toNat = b.toNat := fun e => h (UInt8.toNat.inj e)
        simp [h, this]
    rw [e1, e2]
    by_cases h1 : a.toNat < b.toNat <;> by_cases h2 : a.toNat = b.toNat <;> simp [h1, h2]
theorem bl_eq : ∀ (x y : List UInt8), (Op.bytesLess x y || x == y) = !Op.bytesLess y x
  | [], [] => rfl
  | [], _ :: _ => rfl
  | _ :: _, [] => rfl
  | a :: x, b :: y => by
    have ih := bl_eq x y
    rw [Op.bytesLess, Op.bytesLess]
    by_cases h1 : a < b
    · have h2 : ¬ b < a := by simp only [UInt8.lt_iff_toNat_lt] at *; omega
      have h3 : ¬ b = a := by rintro rfl; simp only [UInt8.lt_iff_toNat_lt] at h1; omega
      simp [h1, h2, h3]
    · by_cases h2 : b < a
      · have h3 : ¬ a = b := by rintro rfl; simp only [UInt8.lt_iff_toNat_lt] at h2; omega
        simp [h1, h2, h3]
      · have h3 : a = b := by
          apply UInt8.toNat.inj
          simp only [UInt8.lt_iff_toNat_lt] at h1 h2; omega
        subst h3
        simp only [h1, decide_false, Bool.false_or, beq_self_eq_true, Bool.true_and]
        rw [← ih]
        simp
theorem toList_str (s : List UInt8) : (⟨s.toArray⟩ : ByteArray).toList = s := by rw [ByteArray.toList_eq]
theorem binS_ok {P : Program} {op : BinOp} {x y : List UInt8} {v : AV} (h : binS op x y = some v) (m : Mz) (t : TypeId) (w : World) :
    ∃ u, (Go.binOp op t (.string ⟨x.toArray⟩) (.string ⟨y.toArray⟩)).run P w = .ok u w ∧ VR m v u := by
  cases op <;> first | (cases h; done) | skip
  case add =>
    obtain ⟨hl, h⟩ := cond_some h
    cases h
    rw [lenL_eq, lenL_eq, blt_eq] at hl
    have hl : x.length + y.length < 1073741824 := by simpa using hl
    refine ⟨.string ⟨(x ++ y).toArray⟩, ?_, by rw [cat_eq]; exact .str _⟩
    have e : (⟨x.toArray⟩ : ByteArray) ++ ⟨y.toArray⟩ = ⟨(x ++ y).toArray⟩ := by
      apply ByteArray.ext; simp
    have hs : ¬ ((((⟨x.toArray⟩ : ByteArray).size + (⟨y.toArray⟩ : ByteArray).size : Nat) : Int) > IntKind.i64.max) := by
      have e1 : (⟨x.toArray⟩ : ByteArray).size = x.length := rfl
      have e2 : (⟨y.toArray⟩ : ByteArray).size = y.length := rfl
      have e3 : IntKind.i64.max = 9223372036854775807 := by decide
      rw [e1, e2, e3]; omega
    simp only [Go.binOp, Op.stringOp, if_neg hs, e, Sem.run_pure]
  case eql => cases h; exact ⟨.bool (x == y), by simp only [Go.binOp, Op.stringOp, toList_str]; rfl, by rw [eqS_eq]; exact .bool _⟩
  case neq => cases h; exact ⟨.bool (!(x == y)), by simp only [Go.binOp, Op.stringOp, toList_str]; rfl, by rw [eqS_eq]; exact .bool _⟩
  case lss => cases h; exact ⟨.bool (Op.bytesLess x y), by simp only [Go.binOp, Op.stringOp, toList_str]; rfl, by rw [ltS_eq]; exact .bool _⟩
  case leq => cases h; exact ⟨.bool (Op.bytesLess x y || x == y), by simp only [Go.binOp, Op.stringOp, toList_str]; rfl, by rw [ltS_eq, ← bl_eq]; exact .bool _⟩
  case gtr => cases h; exact ⟨.bool (!(Op.bytesLess x y || x == y)), by simp only [Go.binOp, Op.stringOp, toList_str]; rfl, by
    have : ltS y x = (!(Op.bytesLess x y || x == y)) := by rw [bl_eq, ltS_eq]; simp
    rw [this]; exact .bool _⟩
  case geq => cases h; exact ⟨.bool (!Op.bytesLess x y), by simp only [Go.binOp, Op.stringOp, toList_str]; rfl, by rw [ltS_eq]; exact .bool _⟩
end Ex
end Go.Proofs.YtdngjkjoahgelaaGreatDoor
