/-
  The executor: what its values, blocks and frames stand for in the model; first laws.
-/
import Derived.Test.YtajoljoegbeiiaaGreatDoorEx3
namespace Go.Proofs.YtajoljoegbeiiaaGreatDoor
set_option linter.all false
namespace Ex
open Go.RowKit

/-! ### Trees -/
namespace Tr
variable {α : Type}
theorem get_nil (d : α) (i : Nat) : Tr.get d Tr.nil i = d := rfl
theorem get_zero (d v : α) (l r : Tr α) : Tr.get d (Tr.node v l r) 0 = v := rfl
theorem get_succ (d v : α) (l r : Tr α) (j : Nat) : Tr.get d (Tr.node v l r) (j + 1) = if j % 2 = 0 then Tr.get d l (j / 2) else Tr.get d r (j / 2) := by
  have e : Tr.get d (Tr.node v l r) (j + 1) = Nat.rec (motive := fun _ => α) (Tr.get d l (j / 2)) (fun _ _ => Tr.get d r (j / 2)) (j % 2) := rfl
  rcases Nat.mod_two_eq_zero_or_one j with h | h
  · rw [e, h]; rfl
  · rw [e, h]; rfl
theorem single_zero (d : α) (f : Nat) (v : α) : Tr.single d f 0 v = Tr.node v Tr.nil Tr.nil := by cases f <;> rfl
theorem single_succ (d : α) (f j : Nat) (v : α) : Tr.single d (f + 1) (j + 1) v = if j % 2 = 0 then Tr.node d (Tr.single d f (j / 2) v) Tr.nil else Tr.node d Tr.nil (Tr.single d f (j / 2) v) := by
  have e : Tr.single d (f + 1) (j + 1) v = Nat.rec (motive := fun _ => Tr α) (Tr.node d (Tr.single d f (j / 2) v) Tr.nil) (fun _ _ => Tr.node d Tr.nil (Tr.single d f (j / 2) v)) (j % 2) := rfl
  rcases Nat.mod_two_eq_zero_or_one j with h | h
  · rw [e, h]; rfl
  · rw [e, h]; rfl
theorem set_nil (d : α) (i : Nat) (v : α) : Tr.set d Tr.nil i v = Tr.single d i i v := rfl
theorem set_zero (d x v : α) (l r : Tr α) : Tr.set d (Tr.node x l r) 0 v = Tr.node v l r := rfl
theorem set_succ (d x v : α) (l r : Tr α) (j : Nat) : Tr.set d (Tr.node x l r) (j + 1) v = if j % 2 = 0 then Tr.node x (Tr.set d l (j / 2) v) r else Tr.node x l (Tr.set d r (j / 2) v) := by
  have e : Tr.set d (Tr.node x l r) (j + 1) v = Nat.rec (motive := fun _ => Tr α) (Tr.node x (Tr.set d l (j / 2) v) r) (fun _ _ => Tr.node x l (Tr.set d r (j / 2) v)) (j % 2) := rfl
  rcases Nat.mod_two_eq_zero_or_one j with h | h
  · rw [e, h]; rfl
  · rw [e, h]; rfl
theorem get_single (d : α) : ∀ (f i : Nat) (v : α), i ≤ f → ∀ j, Tr.get d (Tr.single d f i v) j = if j = i then v else d := by
  intro f
  induction f with
  | zero =>
    intro i v hi j
    obtain rfl : i = 0 := by omega
    rw [single_zero]
    cases j with
    | zero => rfl
    | succ j => rw [get_succ]; split <;> simp [get_nil]
  | succ f ih =>
    intro i v hi j
    cases i with
    | zero =>
      rw [single_zero]
      cases j with
      | zero => rfl
      | succ j => rw [get_succ]; split <;> simp [get_nil]
    | succ i =>
      rw [single_succ]
      cases j with
      | zero => split <;> simp [get_zero]
      | succ j =>
        have hh := ih (i / 2) v (by omega) (j / 2)
        by_cases hi2 : i % 2 = 0
        · rw [if_pos hi2, get_succ]
          by_cases hj2 : j % 2 = 0
          · rw [if_pos hj2, hh]
            by_cases e : j / 2 = i / 2
            · rw [if_pos e, if_pos (by omega)]
            · rw [if_neg e, if_neg (by omega)]
          · rw [if_neg hj2, get_nil, if_neg (by omega)]
        · rw [if_neg hi2, get_succ]
          by_cases hj2 : j % 2 = 0
          · rw [if_pos hj2, get_nil, if_neg (by omega)]
          · rw [if_neg hj2, hh]
            by_cases e : j / 2 = i / 2
            · rw [if_pos e, if_pos (by omega)]
            · rw [if_neg e, if_neg (by omega)]
theorem get_set (d : α) : ∀ (t : Tr α) (i : Nat) (v : α) (j : Nat), Tr.get d (Tr.set d t i v) j = if j = i then v else Tr.get d t j := by
  intro t
  induction t with
  | nil => intro i v j; rw [set_nil, get_single d i i v (Nat.le_refl _), get_nil]
  | node x l r ihl ihr =>
    intro i v j
    cases i with
    | zero =>
      rw [set_zero]
      cases j with
      | zero => rfl
      | succ j => rw [get_succ, get_succ]; simp
    | succ i =>
      rw [set_succ]
      cases j with
      | zero => split <;> simp [get_zero]
      | succ j =>
        by_cases hi2 : i % 2 = 0
        · rw [if_pos hi2, get_succ, get_succ]
          by_cases hj2 : j % 2 = 0
          · rw [if_pos hj2, if_pos hj2, ihl]
            by_cases e : j / 2 = i / 2
            · rw [if_pos e, if_pos (by omega)]
            · rw [if_neg e, if_neg (by omega)]
          · rw [if_neg hj2, if_neg hj2, if_neg (by omega)]
        · rw [if_neg hi2, get_succ, get_succ]
          by_cases hj2 : j % 2 = 0
          · rw [if_pos hj2, if_pos hj2, if_neg (by omega)]
          · rw [if_neg hj2, if_neg hj2, ihr]
            by_cases e : j / 2 = i / 2
            · rw [if_pos e, if_pos (by omega)]
            · rw [if_neg e, if_neg (by omega)]
end Tr
theorem treeOf_get (d : AV) : ∀ (l : List AV) (i : Nat) (t : Tr AV) (j : Nat), (treeOf d l i t).get d j = if i ≤ j then (l[j - i]?).getD (t.get d j) else t.get d j := by
  intro l
  induction l with
  | nil => intro i t j; simp [treeOf]
  | cons v l ih =>
    intro i t j
    show (treeOf d l (i + 1) (t.set d i v)).get d j = _
    rw [ih, Tr.get_set]
    by_cases h : i + 1 ≤ j
    · have e1 : ¬ j = i := by omega
      have e2 : i ≤ j := by omega
      have e3 : j - i = (j - (i + 1)) + 1 := by omega
      simp only [h, e1, e2, if_true, if_false, e3, List.getElem?_cons_succ]
    · by_cases h2 : j = i
      · subst h2; rw [if_neg h]; simp
      · have e2 : ¬ i ≤ j := by omega
        simp only [h, h2, e2, if_false]
theorem lenL_eq {α : Type} (l : List α) : lenL l = l.length := by
  induction l with
  | nil => rfl
  | cons x l ih => show Nat.succ (lenL l) = _; rw [ih]; rfl
theorem cat_eq {α : Type} (a b : List α) : cat a b = a ++ b := by
  induction a with
  | nil => rfl
  | cons x a ih => show x :: cat a b = _; rw [ih]; rfl
theorem listOf_len (d : AV) (t : Tr AV) : ∀ (n i : Nat), (listOf d t n i).length = n := by
  intro n
  induction n with
  | zero => intro i; rfl
  | succ n ih => intro i; show (t.get d i :: listOf d t n (i + 1)).length = _; rw [List.length_cons, ih]
theorem listOf_get (d : AV) (t : Tr AV) : ∀ (n i j : Nat), j < n → (listOf d t n i)[j]? = some (t.get d (i + j)) := by
  intro n
  induction n with
  | zero => intro i j h; omega
  | succ n ih =>
    intro i j h
    show (t.get d i :: listOf d t n (i + 1))[j]? = _
    cases j with
    | zero => rfl
    | succ j => rw [List.getElem?_cons_succ, ih _ _ (by omega), show i + 1 + j = i + (j + 1) by omega]

/-! ### What a value stands for -/
/-- A block of the executor's: the model's block, where it begins there, how many elements' room lies behind it. -/
structure Cz where
  blk : Nat
  sh : Nat
  ext : Nat
abbrev Mz := Nat → Option Cz
mutual
inductive VR (m : Mz) : AV → Value → Prop
  | bool (b : Bool) : VR m (.bool b) (.bool b)
  | int (k : IntKind) (z : Int) : VR m (.int k z) (.int k z)
  | str (s : List UInt8) : VR m (.str s) (.string ⟨s.toArray⟩)
  | ptr {b : Nat} {z : Cz} (o : Nat) (h : m b = some z) : VR m (.ptr b o) (.pointer (some ⟨z.blk, z.sh + o, none⟩))
  | nilp : VR m .nilp (.pointer none)
  | slice {b : Nat} {z : Cz} (o n c : Nat) (ex : Bool) (h : m b = some z) : VR m (.slice b o n c ex) (.slice (some ⟨z.blk, z.sh + o, none⟩) n (if ex = true then c else c + z.ext))
  | sliceZ {b : Nat} {z : Cz} (o : Nat) (a : Addr) (h : m b = some z) : VR m (.slice b o 0 0 false) (.slice (some a) 0 0)
  | nils : VR m .nils (.slice none 0 0)
  | mapv {b : Nat} {z : Cz} (h : m b = some z) : VR m (.mapv b) (.map (some z.blk))
  | nilm : VR m .nilm (.map none)
  | fn (f : Fn) {a c : List AV} {a' c' : Array Value} (ha : VRL m a a'.toList) (hc : VRL m c c'.toList) : VR m (.fn f a c) (.func f a' c')
  | yld {b : Nat} {z : Cz} (h : m b = some z) : VR m (.yld b) (.func (.yield z.blk) #[] #[])
  | nilf : VR m .nilf .nilFunc
  | iface (t : TypeId) {v : AV} {u : Value} (h : VR m v u) : VR m (.iface t v) (.iface t u)
  | nili : VR m .nili .nilIface
  | agg {l : List AV} {us : Array Value} (h : VRL m l us.toList) : VR m (.agg l) (.agg us)
  | tup {l : List AV} {us : Array Value} (h : VRL m l us.toList) : VR m (.tup l) (.tuple us)
  | rep (b : UInt8) (n : Nat) : VR m (.rep b n) (.string ⟨(List.replicate n b).toArray⟩)
inductive VRL (m : Mz) : List AV → List Value → Prop
  | nil : VRL m [] []
  | cons {v : AV} {u : Value} {l : List AV} {us : List Value} (h : VR m v u) (hl : VRL m l us) : VRL m (v :: l) (u :: us)
end
def Le (m m' : Mz) : Prop := ∀ b z, m b = some z → m' b = some z
theorem Le.refl (m : Mz) : Le m m := fun _ _ h => h
theorem Le.trans {a b c : Mz} (h : Le a b) (h' : Le b c) : Le a c := fun x z hx => h' x z (h x z hx)
mutual
theorem VR.mono {m m' : Mz} (hm : Le m m') : ∀ {v : AV} {u : Value}, VR m v u → VR m' v u
  | _, _, .bool b => .bool b
  | _, _, .int k z => .int k z
  | _, _, .str s => .str s
  | _, _, .ptr o h => .ptr o (hm _ _ h)
  | _, _, .nilp => .nilp
  | _, _, .slice o n c ex h => .slice o n c ex (hm _ _ h)
  | _, _, .sliceZ o a h => .sliceZ o a (hm _ _ h)
  | _, _, .nils => .nils
  | _, _, .mapv h => .mapv (hm _ _ h)
  | _, _, .nilm => .nilm
  | _, _, .fn f ha hc => .fn f (VRL.mono hm ha) (VRL.mono hm hc)
  | _, _, .yld h => .yld (hm _ _ h)
  | _, _, .nilf => .nilf
  | _, _, .iface t h => .iface t (VR.mono hm h)
  | _, _, .nili => .nili
  | _, _, .agg h => .agg (VRL.mono hm h)
  | _, _, .tup h => .tup (VRL.mono hm h)
  | _, _, .rep b n => .rep b n
theorem VRL.mono {m m' : Mz} (hm : Le m m') : ∀ {l : List AV} {us : List Value}, VRL m l us → VRL m' l us
  | _, _, .nil => .nil
  | _, _, .cons h hl => .cons (VR.mono hm h) (VRL.mono hm hl)
end
theorem VRL.length {m : Mz} : ∀ {l : List AV} {us : List Value}, VRL m l us → l.length = us.length
  | _, _, .nil => rfl
  | _, _, .cons _ hl => by simp [hl.length]
theorem VRL.get {m : Mz} : ∀ {l : List AV} {us : List Value}, VRL m l us → ∀ (i : Nat) (v : AV), l[i]? = some v → ∃ u, us[i]? = some u ∧ VR m v u
  | _, _, .nil, i, v, h => by simp at h
  | _, _, .cons h hl, 0, v, e => by simp at e; subst e; exact ⟨_, rfl, h⟩
  | _, _, .cons h hl, i + 1, v, e => by simpa using hl.get i v (by simpa using e)
theorem VRL.append {m : Mz} : ∀ {l l' : List AV} {us us' : List Value}, VRL m l us → VRL m l' us' → VRL m (l ++ l') (us ++ us')
  | _, _, _, _, .nil, h' => h'
  | _, _, _, _, .cons h hl, h' => .cons h (hl.append h')
theorem VRL.take {m : Mz} : ∀ {l : List AV} {us : List Value}, VRL m l us → ∀ n, VRL m (l.take n) (us.take n)
  | _, _, .nil, n => by simpa using VRL.nil
  | _, _, .cons h hl, 0 => .nil
  | _, _, .cons h hl, n + 1 => .cons h (hl.take n)
theorem VRL.drop {m : Mz} : ∀ {l : List AV} {us : List Value}, VRL m l us → ∀ n, VRL m (l.drop n) (us.drop n)
  | _, _, .nil, n => by simpa using VRL.nil
  | _, _, .cons h hl, 0 => .cons h hl
  | _, _, .cons h hl, n + 1 => hl.drop n
theorem VRL.of_get {m : Mz} : ∀ {l : List AV} {us : List Value}, l.length = us.length → (∀ (i : Nat) (v : AV), l[i]? = some v → ∃ u, us[i]? = some u ∧ VR m v u) → VRL m l us
  | [], [], _, _ => .nil
  | [], _ :: _, h, _ => by simp at h
  | _ :: _, [], h, _ => by simp at h
  | v :: l, u :: us, h, hg => by
    obtain ⟨u', e, hv⟩ := hg 0 v rfl
    simp at e; subst e
    exact .cons hv (VRL.of_get (by simpa using h) fun (i : Nat) (w : AV) (hw : l[i]? = some w) => by simpa using hg (i + 1) w (by simpa using hw))
theorem VR.cells {m : Mz} {v : AV} {u : Value} (h : VR m v u) : VRL m v.cells u.cells.toList := by
  have h' := h
  cases h <;> first | assumption | exact .cons h' .nil
theorem oneA_of {m : Mz} {v : AV} {u : Value} (h : VR m v u) (ho : oneA v = true) : u.oneCell' = true := by
  cases h <;> first | rfl | simp [oneA] at ho
theorem un_undef (m : Mz) : VR m un undef := .tup .nil
end Ex
end Go.Proofs.YtajoljoegbeiiaaGreatDoor
