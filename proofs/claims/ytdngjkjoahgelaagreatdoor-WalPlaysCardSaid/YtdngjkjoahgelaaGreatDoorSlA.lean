/-
  A small separation logic over the model's heap: assertions on heaplets, 'Sat' (a world that keeps an elder one below its size and meets a list of separate assertions), rows (slices that own their cells), and append, copy, make told in it. append, copy and make in the small separation logic of XSl: laws at an operation, over any program. More laws at an operation in the small separation logic: a variable that is laid, two arrays of integers held against each other. Maps with string keys, in the small separation logic: 'smap mb kvs' (block mb is a map of just these keys and values, in whatever order); look-up, update, delete, make at an operation. A store into a row. A slice that a contract hands back, as a row; 'clear' of a row's end.
-/
import Derived.WalkKit
import Derived.WalkSpells
import Derived.WalkLawsBesides
import Derived.Deep.AppendLies
import Derived.Deep.RegionLaw
import Derived.Laws.CopyOwn
import Derived.ChangeKeysEq
import Derived.Lib.SliceRun
namespace Go.Proofs.YtdngjkjoahgelaaGreatDoor
open Go.RowKit

abbrev Hl := Nat → Option Obj
abbrev HP := Hl → Prop

def hjoin (a b : Hl) : Hl := fun k => (a k).or (b k)
theorem hjoin_of {a b : Hl} {k : Nat} {o : Obj} (h : hjoin a b k = some o) : a k = some o ∨ (a k = none ∧ b k = some o) := by
  unfold hjoin at h
  cases ha : a k with
  | none => rw [ha] at h; exact .inr ⟨rfl, by simpa using h⟩
  | some x => rw [ha] at h; exact .inl (by simpa using h)
theorem hjoin_l {a b : Hl} {k : Nat} {o : Obj} (h : a k = some o) : hjoin a b k = some o := by simp [hjoin, h]
theorem hjoin_r {a b : Hl} {k : Nat} {o : Obj} (h : a k = none) (h' : b k = some o) : hjoin a b k = some o := by simp [hjoin, h, h']
theorem hjoin_none {a b : Hl} {k : Nat} (h : a k = none) (h' : b k = none) : hjoin a b k = none := by simp [hjoin, h, h']
theorem none_of_sub {a h : Hl} {k : Nat} (ha : ∀ k o, a k = some o → h k = some o) (hk : h k = none) : a k = none := by
  cases hak : a k with
  | none => rfl
  | some o => rw [ha k o hak] at hk; cases hk

/-- Pairwise apart pieces of a heaplet that meet a list of assertions; what is left over is forgotten. -/
def stars : List HP → HP
  | [] => fun _ => True
  | A :: L => fun h => ∃ a b : Hl, (∀ k, a k = none ∨ b k = none) ∧ (∀ k o, a k = some o → h k = some o) ∧ (∀ k o, b k = some o → h k = some o) ∧ A a ∧ stars L b

theorem stars_up {L : List HP} {h h' : Hl} (hs : stars L h) (hh : ∀ k o, h k = some o → h' k = some o) : stars L h' := by
  cases L with
  | nil => trivial
  | cons A L =>
    obtain ⟨a, b, hd, ha, hb, hA, hL⟩ := hs
    exact ⟨a, b, hd, fun k o e => hh k o (ha k o e), fun k o e => hh k o (hb k o e), hA, hL⟩

theorem stars_swap {A C : HP} {L : List HP} {h : Hl} (hs : stars (A :: C :: L) h) : stars (C :: A :: L) h := by
  obtain ⟨a, b, hd, ha, hb, hA, c, d, hd', hc, hdd, hC, hL⟩ := hs
  refine ⟨c, hjoin a d, ?_, fun k o e => hb k o (hc k o e), ?_, hC, a, d, ?_, fun k o e => hjoin_l e, ?_, hA, hL⟩
  · intro k
    rcases hd' k with h1 | h1
    · exact .inl h1
    · rcases hd k with h2 | h2
      · exact .inr (hjoin_none h2 h1)
      · exact .inl (none_of_sub hc h2)
  · intro k o e
    rcases hjoin_of e with e | ⟨_, e⟩
    · exact ha k o e
    · exact hb k o (hdd k o e)
  · intro k
    rcases hd k with h2 | h2
    · exact .inl h2
    · exact .inr (none_of_sub hdd h2)
  · intro k o e
    refine hjoin_r ((hd k).resolve_right ?_) e
    rw [hdd k o e]; simp

theorem stars_tail {A : HP} {L L' : List HP} (hL : ∀ h, stars L h → stars L' h) {h : Hl} (hs : stars (A :: L) h) : stars (A :: L') h := by
  obtain ⟨a, b, hd, ha, hb, hA, hLL⟩ := hs
  exact ⟨a, b, hd, ha, hb, hA, hL b hLL⟩

theorem stars_pull : ∀ (i : Nat) (L : List HP) (A : HP), L[i]? = some A → ∀ h, stars L h → stars (A :: L.eraseIdx i) h
  | _, [], _, e => by simp at e
  | 0, C :: L, A, e => by
    simp at e; subst e; intro h hs; exact hs
  | i + 1, C :: L, A, e => by
    intro h hs
    have e' : L[i]? = some A := by simpa using e
    exact stars_swap (stars_tail (stars_pull i L A e') hs)

theorem stars_push : ∀ (i : Nat) (L : List HP) (A : HP), L[i]? = some A → ∀ h, stars (A :: L.eraseIdx i) h → stars L h
  | _, [], _, e => by simp at e
  | 0, C :: L, A, e => by
    simp at e; subst e; intro h hs; exact hs
  | i + 1, C :: L, A, e => by
    intro h hs
    have e' : L[i]? = some A := by simpa using e
    exact stars_tail (stars_push i L A e') (stars_swap hs)

theorem stars_drop {A : HP} {L : List HP} {h : Hl} (hs : stars (A :: L) h) : stars L h := by
  obtain ⟨_, b, _, _, hb, _, hL⟩ := hs
  exact stars_up hL hb

theorem stars_flat : ∀ (L M : List HP) (h : Hl), stars (stars L :: M) h → stars (L ++ M) h
  | [], M, h, hs => stars_drop hs
  | A :: L, M, h, hs => by
    obtain ⟨x, b, hd, hx, hb, ⟨a, l, hal, ha, hl, hA, hL⟩, hM⟩ := hs
    refine ⟨a, hjoin l b, ?_, fun k o e => hx k o (ha k o e), ?_, hA, stars_flat L M _ ⟨l, b, ?_, fun k o e => hjoin_l e, ?_, hL, hM⟩⟩
    · intro k
      rcases hal k with h1 | h1
      · exact .inl h1
      · rcases hd k with h2 | h2
        · exact .inl (none_of_sub ha h2)
        · exact .inr (hjoin_none h1 h2)
    · intro k o e
      rcases hjoin_of e with e | ⟨_, e⟩
      · exact hx k o (hl k o e)
      · exact hb k o e
    · intro k
      rcases hd k with h2 | h2
      · exact .inl (none_of_sub hl h2)
      · exact .inr h2
    · intro k o e
      refine hjoin_r (none_of_sub hl ((hd k).resolve_right ?_)) e
      rw [e]; simp

theorem stars_fold : ∀ (L M : List HP) (h : Hl), stars (L ++ M) h → stars (stars L :: M) h
  | [], M, h, hs => ⟨fun _ => none, h, fun _ => .inl rfl, (fun _ _ e => by cases e), fun _ _ e => e, trivial, hs⟩
  | A :: L, M, h, hs => by
    obtain ⟨a, b, hd, ha, hb, hA, hLM⟩ := hs
    obtain ⟨l, m, hlm, hl, hm, hL, hM⟩ := stars_fold L M b hLM
    refine ⟨hjoin a l, m, ?_, ?_, fun k o e => hb k o (hm k o e), ⟨a, l, ?_, fun k o e => hjoin_l e, ?_, hA, hL⟩, hM⟩
    · intro k
      rcases hlm k with h1 | h1
      · rcases hd k with h2 | h2
        · exact .inl (hjoin_none h2 h1)
        · exact .inr (none_of_sub hm h2)
      · exact .inr h1
    · intro k o e
      rcases hjoin_of e with e | ⟨_, e⟩
      · exact ha k o e
      · exact hb k o (hl k o e)
    · intro k
      rcases hd k with h2 | h2
      · exact .inl h2
      · exact .inr (none_of_sub hl h2)
    · intro k o e
      refine hjoin_r ((hd k).resolve_right ?_) e
      rw [hl k o e]; simp

theorem stars_head {A A' : HP} {L : List HP} (hA : ∀ h, A h → A' h) {h : Hl} (hs : stars (A :: L) h) : stars (A' :: L) h := by
  obtain ⟨a, b, hd, ha, hb, hAa, hL⟩ := hs
  exact ⟨a, b, hd, ha, hb, hA a hAa, hL⟩

/-- Block b is just o. -/
def pt (b : Nat) (o : Obj) : HP := fun h => h b = some o
/-- Some x. -/
def ex {α : Type} (P : α → HP) : HP := fun h => ∃ x, P x h
/-- A plain fact. -/
def fact (p : Prop) : HP := fun _ => p

/-- 'w' is 'B' below B's size, and has, beyond, what the list says, each apart from the others. -/
structure Sat (B : World) (L : List HP) (w : World) : Prop where
  os : w.os = B.os
  tape : w.tape = B.tape
  output : w.output = B.output
  size : B.heap.size ≤ w.heap.size
  old : ∀ k, k < B.heap.size → w.heap[k]? = B.heap[k]?
  own : ∃ h : Hl, stars L h ∧ ∀ k o, h k = some o → w.heap[k]? = some o ∧ B.heap.size ≤ k

section
variable {B w w' : World} {L M : List HP} {A C : HP}

theorem Sat.start (B : World) : Sat B [] B := ⟨rfl, rfl, rfl, Nat.le_refl _, fun _ _ => rfl, fun _ => none, trivial, fun _ _ e => by cases e⟩
theorem Sat.below (h : Sat B L w) : Below B.heap.size B w := ⟨h.os, h.tape, h.output, h.size, h.old⟩
theorem Sat.conv (h : Sat B L w) (hL : ∀ x, stars L x → stars M x) : Sat B M w := by
  obtain ⟨x, h1, h2⟩ := h.own
  exact ⟨h.os, h.tape, h.output, h.size, h.old, x, hL x h1, h2⟩
theorem Sat.swap (h : Sat B (A :: C :: L) w) : Sat B (C :: A :: L) w := h.conv fun _ => stars_swap
theorem Sat.pull (h : Sat B L w) (i : Nat) (hi : L[i]? = some A) : Sat B (A :: L.eraseIdx i) w := h.conv (stars_pull i L A hi)
theorem Sat.push (i : Nat) (hi : L[i]? = some A) (h : Sat B (A :: L.eraseIdx i) w) : Sat B L w := h.conv (stars_push i L A hi)
theorem Sat.drop (h : Sat B (A :: L) w) : Sat B L w := h.conv fun _ => stars_drop
theorem Sat.flat (h : Sat B (stars L :: M) w) : Sat B (L ++ M) w := h.conv (stars_flat L M)
theorem Sat.fold (h : Sat B (L ++ M) w) : Sat B (stars L :: M) w := h.conv (stars_fold L M)
theorem Sat.head (h : Sat B (A :: L) w) (hA : ∀ x, A x → C x) : Sat B (C :: L) w := h.conv fun _ => stars_head hA
theorem Sat.ex_out {α : Type} {P : α → HP} (h : Sat B (ex P :: L) w) : ∃ x, Sat B (P x :: L) w := by
  obtain ⟨y, ⟨a, b, hd, ha, hb, ⟨x, hx⟩, hL⟩, h2⟩ := h.own
  exact ⟨x, h.os, h.tape, h.output, h.size, h.old, y, ⟨a, b, hd, ha, hb, hx, hL⟩, h2⟩
theorem Sat.ex_in {α : Type} {P : α → HP} (x : α) (h : Sat B (P x :: L) w) : Sat B (ex P :: L) w := h.head fun _ hy => ⟨x, hy⟩
theorem Sat.fact_out {p : Prop} (h : Sat B (fact p :: L) w) : p ∧ Sat B L w := by
  obtain ⟨y, ⟨a, b, hd, ha, hb, hp, hL⟩, h2⟩ := h.own
  exact ⟨hp, h.drop⟩
theorem Sat.fact_in {p : Prop} (hp : p) (h : Sat B L w) : Sat B (fact p :: L) w :=
  h.conv fun x hx => ⟨fun _ => none, x, fun _ => .inl rfl, (fun _ _ e => by cases e), fun _ _ e => e, hp, hx⟩
/-- What an assertion says of the world. -/
theorem Sat.says (h : Sat B (A :: L) w) : ∃ a : Hl, A a ∧ ∀ k o, a k = some o → w.heap[k]? = some o ∧ B.heap.size ≤ k := by
  obtain ⟨y, ⟨a, b, hd, ha, hb, hA, hL⟩, h2⟩ := h.own
  exact ⟨a, hA, fun k o e => h2 k o (ha k o e)⟩
/-- The one law on a step of the world: what was A's has become C's, of old blocks of A's and new ones; nothing else has turned. -/
theorem Sat.turn (h : Sat B (A :: L) w) (ho : w'.os = w.os) (ht : w'.tape = w.tape) (hp : w'.output = w.output) (hz : w.heap.size ≤ w'.heap.size)
    (hu : ∀ a : Hl, A a → (∀ k o, a k = some o → w.heap[k]? = some o ∧ B.heap.size ≤ k) →
      ∃ c : Hl, C c ∧ (∀ k o, c k = some o → w'.heap[k]? = some o ∧ (a k ≠ none ∨ w.heap.size ≤ k)) ∧ ∀ k, k < w.heap.size → a k = none → w'.heap[k]? = w.heap[k]?) : Sat B (C :: L) w' := by
  obtain ⟨y, ⟨a, b, hd, ha, hb, hA, hL⟩, h2⟩ := h.own
  obtain ⟨c, hC, hc, hrest⟩ := hu a hA fun k o e => h2 k o (ha k o e)
  have hbw : ∀ k o, b k = some o → w'.heap[k]? = some o ∧ B.heap.size ≤ k := fun k o e => by
    have h3 := h2 k o (hb k o e)
    refine ⟨?_, h3.2⟩
    rw [hrest k (Array.getElem?_eq_some_iff.1 h3.1).1 ((hd k).resolve_right (by simp [e]))]
    exact h3.1
  have hlow : ∀ k, a k ≠ none ∨ w.heap.size ≤ k → B.heap.size ≤ k := fun k e => by
    rcases e with e | e
    · cases hk : a k with
      | none => exact absurd hk e
      | some o => exact (h2 k o (ha k o hk)).2
    · exact Nat.le_trans h.size e
  have hcb : ∀ k o, b k = some o → c k = none := fun k o e => by
    cases hck : c k with
    | none => rfl
    | some o' =>
      rcases (hc k o' hck).2 with h3 | h3
      · exact absurd ((hd k).resolve_right (by simp [e])) h3
      · have := (Array.getElem?_eq_some_iff.1 (h2 k o (hb k o e)).1).1; omega
  refine ⟨ho.trans h.os, ht.trans h.tape, hp.trans h.output, Nat.le_trans h.size hz, fun k hk => ?_, hjoin c b, ⟨c, b, ?_, fun k o e => hjoin_l e, fun k o e => hjoin_r (hcb k o e) e, hC, hL⟩, ?_⟩
  · rw [hrest k (Nat.lt_of_lt_of_le hk h.size) ?_]
    · exact h.old k hk
    · cases hak : a k with
      | none => rfl
      | some o => have := (h2 k o (ha k o hak)).2; omega
  · intro k
    cases hbk : b k with
    | none => exact .inr rfl
    | some o => exact .inl (hcb k o hbk)
  · intro k o e
    rcases hjoin_of e with e | ⟨_, e⟩
    · exact ⟨(hc k o e).1, hlow k (hc k o e).2⟩
    · exact hbw k o e

theorem Sat.drew (h : Sat B L w) : Sat B L w.drew := ⟨h.os, h.tape, h.output, h.size, h.old, h.own⟩
theorem Sat.drewN (h : Sat B L w) (n : Nat) : Sat B L (w.drewN n) := ⟨h.os, h.tape, h.output, h.size, h.old, h.own⟩
/-- A world whose heap is the same. -/
theorem Sat.same (h : Sat B L w) (ho : w'.os = w.os) (ht : w'.tape = w.tape) (hp : w'.output = w.output) (hh : w'.heap = w.heap) : Sat B L w' :=
  ⟨ho.trans h.os, ht.trans h.tape, hp.trans h.output, by rw [hh]; exact h.size, fun k hk => by rw [hh]; exact h.old k hk, by rw [hh]; exact h.own⟩

theorem Sat.pt_at {b : Nat} {o : Obj} (h : Sat B (pt b o :: L) w) : w.heap[b]? = some o := by
  obtain ⟨a, hA, h2⟩ := h.says
  exact (h2 b o hA).1
theorem Sat.pt_lt {b : Nat} {o : Obj} (h : Sat B (pt b o :: L) w) : b < w.heap.size := (Array.getElem?_eq_some_iff.1 h.pt_at).1
theorem Sat.pt_cell {b : Nat} {cs : Array Value} {t : TypeId} {fz : Nat × Nat} (h : Sat B (pt b (.cells cs t fz) :: L) w) (j : Nat) : w.cell? ⟨b, j, none⟩ = cs[j]? := cell_of_row w b j cs t fz h.pt_at
theorem Sat.pt_free {b : Nat} {cs : Array Value} {t : TypeId} (h : Sat B (pt b (.cells cs t) :: L) w) (j : Nat) : w.frozen? ⟨b, j, none⟩ = false := frozen_of_row w b j cs t h.pt_at

theorem Sat.alloc (h : Sat B L w) (o : Obj) : Sat B (pt w.heap.size o :: L) (w.alloc o) := by
  refine (Sat.fact_in (p := True) trivial h).turn rfl rfl rfl (by simp) fun a _ h2 => ⟨fun k => if k = w.heap.size then some o else none, by simp [pt], ?_, ?_⟩
  · intro k o' e
    simp only [] at e
    split at e
    · rename_i hk; subst hk; cases e; exact ⟨heap_alloc_new w o, .inr (Nat.le_refl _)⟩
    · cases e
  · intro k hk _; exact Below.heap_alloc w o k hk
theorem Sat.alloc' (h : Sat B L w) (o : Obj) {n : Nat} (hn : n = w.heap.size) : Sat B (pt n o :: L) (w.alloc o) := hn ▸ h.alloc o
theorem Sat.set {b j : Nat} {cs : Array Value} {t : TypeId} (h : Sat B (pt b (.cells cs t) :: L) w) (v : Value) : Sat B (pt b (.cells (cs.setIfInBounds j v) t) :: L) (w.setCell ⟨b, j, none⟩ v) := by
  have hlt := h.pt_lt
  refine h.turn rfl rfl rfl (by simp) fun a ha h2 => ⟨fun k => if k = b then some (.cells (cs.setIfInBounds j v) t) else none, by simp [pt], ?_, ?_⟩
  · intro k o e
    simp only [] at e
    split at e
    · rename_i hk; subst hk; cases e
      refine ⟨heap_setCell_same w k j cs t v h.pt_at, .inl ?_⟩
      rw [show a k = _ from ha]; simp
    · cases e
  · intro k hk hak
    refine heap_setCell_other w ⟨b, j, none⟩ k v ?_
    intro hkb
    rw [show k = b from hkb, show a b = _ from ha] at hak; cases hak
/-- A block that lies below. -/
theorem Sat.old_cell {B w : World} {L : List HP} (h : Sat B L w) {a : Addr} (ha : a.block < B.heap.size) : w.cell? a = B.cell? a := World.cell?_of_block (h.old a.block ha)
end

/-! ### The third .. seventh to the front, and back -/
theorem Sat.p2 {B w : World} {L : List HP} {A0 A1 X : HP} (h : Sat B (A0 :: A1 :: X :: L) w) : Sat B (X :: A0 :: A1 :: L) w := h.pull (i := 2) rfl
theorem Sat.q2 {B w : World} {L : List HP} {A0 A1 X : HP} (h : Sat B (X :: A0 :: A1 :: L) w) : Sat B (A0 :: A1 :: X :: L) w := Sat.push 2 (L := A0 :: A1 :: X :: L) rfl h
theorem Sat.p3 {B w : World} {L : List HP} {A0 A1 A2 X : HP} (h : Sat B (A0 :: A1 :: A2 :: X :: L) w) : Sat B (X :: A0 :: A1 :: A2 :: L) w := h.pull (i := 3) rfl
theorem Sat.q3 {B w : World} {L : List HP} {A0 A1 A2 X : HP} (h : Sat B (X :: A0 :: A1 :: A2 :: L) w) : Sat B (A0 :: A1 :: A2 :: X :: L) w := Sat.push 3 (L := A0 :: A1 :: A2 :: X :: L) rfl h
theorem Sat.p4 {B w : World} {L : List HP} {A0 A1 A2 A3 X : HP} (h : Sat B (A0 :: A1 :: A2 :: A3 :: X :: L) w) : Sat B (X :: A0 :: A1 :: A2 :: A3 :: L) w := h.pull (i := 4) rfl
theorem Sat.q4 {B w : World} {L : List HP} {A0 A1 A2 A3 X : HP} (h : Sat B (X :: A0 :: A1 :: A2 :: A3 :: L) w) : Sat B (A0 :: A1 :: A2 :: A3 :: X :: L) w := Sat.push 4 (L := A0 :: A1 :: A2 :: A3 :: X :: L) rfl h
theorem Sat.p5 {B w : World} {L : List HP} {A0 A1 A2 A3 A4 X : HP} (h : Sat B (A0 :: A1 :: A2 :: A3 :: A4 :: X :: L) w) : Sat B (X :: A0 :: A1 :: A2 :: A3 :: A4 :: L) w := h.pull (i := 5) rfl
theorem Sat.q5 {B w : World} {L : List HP} {A0 A1 A2 A3 A4 X : HP} (h : Sat B (X :: A0 :: A1 :: A2 :: A3 :: A4 :: L) w) : Sat B (A0 :: A1 :: A2 :: A3 :: A4 :: X :: L) w := Sat.push 5 (L := A0 :: A1 :: A2 :: A3 :: A4 :: X :: L) rfl h
theorem Sat.q6 {B w : World} {L : List HP} {A0 A1 A2 A3 A4 A5 X : HP} (h : Sat B (X :: A0 :: A1 :: A2 :: A3 :: A4 :: A5 :: L) w) : Sat B (A0 :: A1 :: A2 :: A3 :: A4 :: A5 :: X :: L) w := Sat.push 6 (L := A0 :: A1 :: A2 :: A3 :: A4 :: A5 :: X :: L) rfl h

/-! ### Rows: a slice that owns its cells -/
def row (e : TypeId) (size : Nat) (v : Value) (n : Nat) (xs : List Value) : HP := fun h =>
  xs.length = n * size ∧ (∀ u ∈ xs, u.oneCell' = true) ∧
  ((v = .slice none 0 0 ∧ n = 0) ∨
    ∃ g off cap cur, v = .slice (some ⟨g, off, none⟩) n cap ∧ h g = some (.cells cur e (0, 0)) ∧ n ≤ cap ∧ cap ≤ maxLen ∧ off + cap * size ≤ cur.size ∧ (cur.toList.drop off).take (n * size) = xs)

/-- Where the cells of a slice's elements lie. -/
def reads (w : World) (v : Value) (n : Nat) (xs : List Value) : Prop :=
  ∃ a c, v = .slice a n c ∧ (a = none → n = 0 ∧ c = 0) ∧ n ≤ c ∧ c ≤ maxLen ∧ ∀ j u, xs[j]? = some u → ∃ b off, a = some ⟨b, off, none⟩ ∧ w.cell? ⟨b, off + j, none⟩ = some u

section
variable {B w w' : World} {L M : List HP} {e : TypeId} {size n : Nat} {v : Value} {xs : List Value}

theorem Sat.row_len (h : Sat B (row e size v n xs :: L) w) : xs.length = n * size := by
  obtain ⟨a, hA, _⟩ := h.says
  exact hA.1
theorem Sat.row_one (h : Sat B (row e size v n xs :: L) w) : ∀ u ∈ xs, u.oneCell' = true := by
  obtain ⟨a, hA, _⟩ := h.says
  exact hA.2.1
theorem Sat.row_reads (h : Sat B (row e size v n xs :: L) w) : reads w v n xs := by
  obtain ⟨a, ⟨hl, h1, hA⟩, h2⟩ := h.says
  rcases hA with ⟨rfl, rfl⟩ | ⟨g, off, cap, cur, rfl, hg, hn, hm, hs, ht⟩
  · exact ⟨none, 0, rfl, fun _ => ⟨rfl, rfl⟩, Nat.le_refl _, Nat.zero_le _, fun j u e => by
      have : xs = [] := List.eq_nil_of_length_eq_zero (by simpa using hl)
      subst this; simp at e⟩
  · refine ⟨_, _, rfl, (fun e => by cases e), hn, hm, fun j u e => ⟨g, off, rfl, ?_⟩⟩
    rw [cell_of_row w g _ cur _ (0, 0) (h2 g _ hg).1]
    rw [← ht, List.getElem?_take] at e
    split at e
    · rw [List.getElem?_drop] at e
      simpa using e
    · cases e
/-- Its form: nil, or somewhere. -/
theorem Sat.row_form (h : Sat B (row e size v n xs :: L) w) : (v = .slice none 0 0 ∧ n = 0 ∧ xs = []) ∨
    ∃ g off cap, v = .slice (some ⟨g, off, none⟩) n cap ∧ n ≤ cap ∧ cap ≤ maxLen ∧ B.heap.size ≤ g ∧ g < w.heap.size ∧ (∀ j u, xs[j]? = some u → w.cell? ⟨g, off + j, none⟩ = some u) ∧
      (∀ j, w.frozen? ⟨g, j, none⟩ = false) ∧ ∀ j, j < cap * size → (w.cell? ⟨g, off + j, none⟩).isSome = true := by
  have hr := h.row_reads
  obtain ⟨a, ⟨hl, h1, hA⟩, h2⟩ := h.says
  rcases hA with ⟨rfl, rfl⟩ | ⟨g, off, cap, cur, rfl, hg, hn, hm, hs, ht⟩
  · exact .inl ⟨rfl, rfl, List.eq_nil_of_length_eq_zero (by simpa using hl)⟩
  · refine .inr ⟨g, off, cap, rfl, hn, hm, (h2 g _ hg).2, (Array.getElem?_eq_some_iff.1 (h2 g _ hg).1).1, fun j u e => ?_, fun j => frozen_of_row w g j cur _ (h2 g _ hg).1, fun j hj => ?_⟩
    · obtain ⟨a', c, hv, _, _, _, hc⟩ := hr
      cases hv
      obtain ⟨b, o, hb, hcc⟩ := hc j u e
      cases hb; exact hcc
    · rw [cell_of_row w g _ cur _ (0, 0) (h2 g _ hg).1]
      have hlt : off + j < cur.size := by omega
      simp [hlt]
theorem row_nil (h : Hl) : row e size (.slice none 0 0) 0 [] h := ⟨by simp, by simp, .inl ⟨rfl, rfl⟩⟩
theorem Sat.row_nil (h : Sat B L w) (e : TypeId) (size : Nat) : Sat B (row e size (.slice none 0 0) 0 [] :: L) w :=
  h.conv fun x hx => ⟨fun _ => none, x, fun _ => .inl rfl, (fun _ _ e => by cases e), fun _ _ e => e, Go.Proofs.YtdngjkjoahgelaaGreatDoor.row_nil _, hx⟩
/-- A block that is known whole is a row. -/
theorem Sat.pt_row {b : Nat} {cs : Array Value} (h : Sat B (pt b (.cells cs e) :: L) w) (n cap off : Nat) (xs : List Value) (hl : xs.length = n * size) (h1 : ∀ u ∈ xs, u.oneCell' = true)
    (hn : n ≤ cap) (hc : cap ≤ maxLen) (hs : off + cap * size ≤ cs.size) (hx : (cs.toList.drop off).take (n * size) = xs) : Sat B (row e size (.slice (some ⟨b, off, none⟩) n cap) n xs :: L) w :=
  h.head fun _ hy => ⟨hl, h1, .inr ⟨b, off, cap, cs, rfl, hy, hn, hc, hs, hx⟩⟩
/-- A slice of a row is a row: what lies behind is forgotten. -/
theorem Sat.row_cut {g off cap : Nat} (h : Sat B (row e size (.slice (some ⟨g, off, none⟩) n cap) n xs :: L) w) (l m c : Nat) (hlm : l + m ≤ n) (hmc : m ≤ c) (hc : l + c ≤ cap) :
    Sat B (row e size (.slice (some ⟨g, off + l * size, none⟩) m c) m ((xs.drop (l * size)).take (m * size)) :: L) w := by
  refine h.head fun y hy => ?_
  obtain ⟨hl, h1, hA⟩ := hy
  rcases hA with ⟨hv, _⟩ | ⟨g', off', cap', cur, hv, hg, hn, hm, hs, ht⟩
  · cases hv
  · cases hv
    have e1 : l * size + m * size ≤ n * size := by rw [← Nat.add_mul]; exact Nat.mul_le_mul_right _ hlm
    have e2 : l * size + c * size ≤ cap * size := by rw [← Nat.add_mul]; exact Nat.mul_le_mul_right _ hc
    refine ⟨?_, fun u hu => h1 u (List.mem_of_mem_drop (List.mem_of_mem_take hu)), .inr ⟨g, off + l * size, c, cur, rfl, hg, hmc, by omega, by omega, ?_⟩⟩
    · rw [List.length_take, List.length_drop, hl]; omega
    · rw [← ht, List.drop_take, List.drop_drop, List.take_take]
      congr 1; omega
end
theorem Sat.row_take {B w : World} {L : List HP} {e : TypeId} {size n : Nat} {xs : List Value} {g off cap : Nat} (h : Sat B (row e size (.slice (some ⟨g, off, none⟩) n cap) n xs :: L) w) (m c : Nat) (hm : m ≤ n) (hmc : m ≤ c) (hc : c ≤ cap) :
    Sat B (row e size (.slice (some ⟨g, off, none⟩) m c) m (xs.take (m * size)) :: L) w := by
  have := h.row_cut 0 m c (by omega) hmc (by omega)
  simpa using this
/-- 's[k:]': at k = cap Go keeps the old address. -/
theorem reads_tail {w : World} {g off n c : Nat} {xs : List Value} (h : reads w (.slice (some ⟨g, off, none⟩) n c) n xs) (k size : Nat) (hk : k ≤ n) (hl : xs.length = n * size) :
    (c = k → reads w (.slice (some ⟨g, off, none⟩) (n - k) (c - k)) (n - k) (xs.drop (k * size))) ∧ (c ≠ k → reads w (.slice (some ⟨g, off + k * size, none⟩) (n - k) (c - k)) (n - k) (xs.drop (k * size))) := by
  refine ⟨fun hc => ?_, fun _ => ?_⟩
  · obtain ⟨a', c', hv, h0, h1, h2, h3⟩ := h
    cases hv
    have hnk : n = k := by omega
    subst hnk
    rw [List.drop_of_length_le (by omega)]
    exact ⟨_, _, rfl, (fun e => by cases e), by omega, by omega, fun j u e => by simp at e⟩
  · obtain ⟨a', c', hv, h0, h1, h2, h3⟩ := h
    cases hv
    refine ⟨_, _, rfl, (fun e => by cases e), by omega, by omega, fun i u hu => ?_⟩
    rw [List.getElem?_drop] at hu
    obtain ⟨b, o, hb, hcc⟩ := h3 _ _ hu
    cases hb
    exact ⟨g, off + k * size, rfl, by rw [Nat.add_assoc]; exact hcc⟩
theorem reads_take {w : World} {a : Option Addr} {n c : Nat} {xs : List Value} (h : reads w (.slice a n c) n xs) (k j : Nat) (hk : k ≤ n) : reads w (.slice a k c) k (xs.take j) := by
  obtain ⟨a', c', hv, h0, h1, h2, h3⟩ := h
  cases hv
  refine ⟨a, c, rfl, fun e => ⟨by have := (h0 e).1; omega, (h0 e).2⟩, by omega, h2, fun i u hu => h3 i u ?_⟩
  rw [List.getElem?_take] at hu
  split at hu
  · exact hu
  · cases hu
theorem reads_len {w : World} {a : Option Addr} {n c : Nat} {xs : List Value} (h : reads w (.slice a n c) n xs) : (a = none → n = 0 ∧ c = 0) ∧ n ≤ c ∧ c ≤ 9223372036854775807 := by
  obtain ⟨a', c', hv, h0, h1, h2, _⟩ := h
  cases hv
  exact ⟨h0, h1, by simpa [maxLen] using h2⟩
theorem reads_new {w : World} {g n : Nat} (cs : Array Value) (e : TypeId) (hg : g = w.heap.size) (hn : n ≤ 9223372036854775807) : reads (w.alloc (.cells cs e)) (.slice (some ⟨g, 0, none⟩) n n) n cs.toList := by
  refine ⟨_, _, rfl, (fun e => by cases e), Nat.le_refl _, by unfold maxLen; omega, fun j u hu => ⟨_, _, rfl, ?_⟩⟩
  rw [World.cell?_alloc_at _ _ _ _ hg, Nat.zero_add]
  simpa using hu
theorem reads_mono {w w' : World} {v : Value} {n : Nat} {xs : List Value} (h : reads w v n xs) (hc : ∀ a u, w.cell? a = some u → w'.cell? a = some u) : reads w' v n xs := by
  obtain ⟨a, c, h0, h1, h2, h3, h4⟩ := h
  exact ⟨a, c, h0, h1, h2, h3, fun j u hu => by obtain ⟨b, o, hb, hcc⟩ := h4 j u hu; exact ⟨b, o, hb, hc _ _ hcc⟩⟩
theorem Sat.reads {B w : World} {L : List HP} (h : Sat B L w) {v : Value} {n : Nat} {xs : List Value} (hr : reads B v n xs) : reads w v n xs :=
  reads_mono hr fun _ _ e => by rw [h.old_cell (block_lt_of_cell e)]; exact e
/-- Bytes as cells. -/
def u8s (bs : List UInt8) : List Value := bs.map fun b => .int .u8 b.toNat
theorem u8s_len (bs : List UInt8) : (u8s bs).length = bs.length := by simp [u8s]
theorem u8s_one (bs : List UInt8) : ∀ u ∈ u8s bs, u.oneCell' = true := by
  intro u hu
  obtain ⟨b, _, rfl⟩ := List.mem_map.1 hu
  rfl
#print axioms Sat.turn
#print axioms Sat.row_cut
end Go.Proofs.YtdngjkjoahgelaaGreatDoor

namespace Go.Proofs.YtdngjkjoahgelaaGreatDoor
open Go.RowKit

/-- What the table says of a slice type and its element type. -/
structure Elem (P : Program) (t e : TypeId) (z : Value) (size bytes : Nat) : Prop where
  ht : P.underlying t = some (.slice e)
  info : (P.info? e).map (fun i => (i.zero, i.size, i.bytes)) = some (some z, size, bytes)
  sz : z.cells.size = size
  pos : 0 < size
  one : ∀ u ∈ z.cells.toList, u.oneCell' = true

section
variable {P : Program} {t e : TypeId} {z : Value} {size bytes : Nat} {B w : World} {L : List HP} {n m : Nat} {v x : Value} {xs news : List Value}

theorem addr_add (g off j : Nat) : (⟨g, off, none⟩ : Addr).add j = ⟨g, off + j, none⟩ := by unfold Addr.add; split <;> simp_all

theorem reads_cells {w : World} {a : Option Addr} {c : Nat} (h : reads w (.slice a n c) n xs) : ∀ b, a = some b → ∀ j u, xs[j]? = some u → w.cell? (b.add j) = some u := by
  intro b hb j u hu
  obtain ⟨a', c', hv, _, _, _, hc⟩ := h
  cases hv
  obtain ⟨g, off, h1, h2⟩ := hc j u hu
  rw [h1] at hb; cases hb
  rw [addr_add]; exact h2

theorem drop_take_upd (cur xs news : List Value) (off k : Nat) (hx : (cur.drop off).take k = xs) (hk : xs.length = k) (hl : off + k + news.length ≤ cur.length) :
    ((cur.take (off + k) ++ news ++ cur.drop (off + k + news.length)).drop off).take (k + news.length) = xs ++ news := by
  have h1 : cur.take (off + k) = cur.take off ++ xs := by rw [List.take_add, hx]
  rw [h1]
  have hlen : (cur.take off).length = off := by rw [List.length_take]; omega
  rw [List.append_assoc, List.append_assoc, List.drop_append_of_le_length (by omega), List.drop_of_length_le (by omega), List.nil_append, ← List.append_assoc]
  rw [List.take_append_of_le_length (by simp; omega), List.take_of_length_le (by simp; omega)]

theorem run_append_row (E : Elem P t e z size bytes) (ty : TypeId) (hS : Sat B (row e size v n xs :: L) w) (hx : reads w x m news) (hl : news.length = m * size) (h1 : ∀ u ∈ news, u.oneCell' = true)
    (b1 : n + m ≤ maxLen) (b2 : (n + m) * bytes ≤ 140737488355328) :
    ∃ a c w', (Builtin.append_ #[t, t] ty #[v, x]).run P w = .ok (.slice a (n + m) c) w' ∧ Sat B (row e size (.slice a (n + m) c) (n + m) (xs ++ news) :: L) w' := by
  obtain ⟨i, hi, hz0, hz1, hz2⟩ := info_parts E.info
  have ht := E.ht
  have hsz := E.sz
  have hpos := E.pos
  subst hz1; subst hz2
  have hone := hS.row_one
  have hlx := hS.row_len
  obtain ⟨xa, xc, rfl, hxn, hxle, hxm, hxc⟩ := hx
  by_cases hm : m = 0
  · subst hm
    obtain rfl : news = [] := List.eq_nil_of_length_eq_zero (by simpa using hl)
    simp only [List.append_nil, Nat.add_zero]
    rcases hS.row_form with ⟨rfl, rfl, rfl⟩ | ⟨g, off, cap, rfl, hn, _⟩
    · exact ⟨none, 0, w, by cases xa <;> simp [Builtin.append_, run_underlying ht, sizeOf, typeInfo, hi, Builtin.lenOf, Builtin.firstCells, loadCells, loadCellsFrom], hS⟩
    · exact ⟨some ⟨g, off, none⟩, cap, w, by cases xa <;> simp [Builtin.append_, run_underlying ht, sizeOf, typeInfo, hi, Builtin.lenOf, Builtin.firstCells, hn, storeCells, loadCells, loadCellsFrom], hS⟩
  · obtain ⟨ad, rfl⟩ : ∃ ad, xa = some ad := by
      cases xa with
      | some ad => exact ⟨ad, rfl⟩
      | none => exact absurd (hxn rfl).1 hm
    have hnews := reads_cells (w := w) (a := some ad) (c := xc) (n := m) (xs := news) ⟨_, _, rfl, hxn, hxle, hxm, hxc⟩ ad rfl
    have hlen : (xs ++ news).length = (n + m) * i.size := by rw [List.length_append, hlx, hl, Nat.add_mul]
    have h1' : ∀ u ∈ xs ++ news, u.oneCell' = true := fun u hu => (List.mem_append.1 hu).elim (hone u) (h1 u)
    -- what has grown
    have grown : ∀ (old : Nat), old < n + m → ∀ w1 : World, w1 = w.drew.alloc (.cells (xs.toArray ++ news.toArray ++ Builtin.zeroCells z.cells (grownCap w (n + m) old e - (n + m))) e) →
        Sat B (row e i.size (.slice (some ⟨w.heap.size, 0, none⟩) (n + m) (grownCap w (n + m) old e)) (n + m) (xs ++ news) :: L) w1 := by
      intro old ho w1 hw1
      have hge := grownCap_ge w (n + m) old e
      have hcm : grownCap w (n + m) old e ≤ maxLen := grownCap_le_maxLen w (n + m) old e b1
      have h2 := hS.drop.drew.alloc (.cells (xs.toArray ++ news.toArray ++ Builtin.zeroCells z.cells (grownCap w (n + m) old e - (n + m))) e)
      rw [← hw1] at h2
      refine h2.pt_row _ _ _ _ hlen h1' hge hcm ?_ ?_
      · simp only [Array.size_append, List.size_toArray, size_zeroCells, hsz, hlx, hl, ← Nat.add_mul]
        rw [Nat.zero_add]
        exact Nat.le_of_eq (by congr 1; omega)
      · simp only [Array.toList_append, List.append_assoc, List.drop_zero]
        rw [← List.append_assoc, ← hlen]
        exact List.take_left
    rcases hS.row_form with ⟨rfl, rfl, rfl⟩ | ⟨g, off, cap, rfl, hn, hcm, hge, hlt, hcells, hfree, hthere⟩
    · have hr : (Builtin.append_ #[t, t] ty #[.slice none 0 0, .slice (some ad) m xc]).run P w =
          .ok (.slice (some ⟨w.heap.size, 0, none⟩) (0 + m) (grownCap w (0 + m) 0 e)) (w.drew.alloc (.cells (([] : List Value).toArray ++ news.toArray ++ Builtin.zeroCells z.cells (grownCap w (0 + m) 0 e - (0 + m))) e)) := by
        have h63 : ((0 + m : Nat) : Int) ≤ 9223372036854775807 := by simp only [maxLen] at b1; omega
        rw [Nat.zero_add] at h63 b2 ⊢
        rw [show ([] : List Value).toArray ++ news.toArray = news.toArray from by simp]
        exact run_append_nil w t ty e i z ht hi hz0 ad m xc news hl hnews (by omega) h63 (by omega)
      exact ⟨_, _, _, hr, grown 0 (by omega) _ rfl⟩
    · by_cases hroom : n + m ≤ cap
      · obtain ⟨y, ⟨_, _, hA⟩, hy⟩ := hS.says
        rcases hA with ⟨hv, _⟩ | ⟨g', off', cap', cur, hv, hg, _, _, hs, hcur⟩
        · cases hv
        cases hv
        have hgw := (hy g _ hg).1
        have hmul : n * i.size + m * i.size ≤ cap * i.size := by rw [← Nat.add_mul]; exact Nat.mul_le_mul_right _ hroom
        have hf := run_firstCells_some (P := P) w i.size m ad m xc news hl hnews
        have hst := run_storeCells_at P g (off + n * i.size) e news 0 cur w hgw (by omega) h1
        simp only [Nat.add_zero] at hst
        refine ⟨some ⟨g, off, none⟩, cap, w.setRow g (cur.toList.take (off + n * i.size) ++ news ++ cur.toList.drop (off + n * i.size + news.length)).toArray, ?_, ?_⟩
        rotate_left
        · refine hS.turn rfl rfl rfl (by simp) fun a ha h2 => ?_
          obtain ⟨_, _, hA⟩ := ha
          rcases hA with ⟨hv, _⟩ | ⟨g2, off2, cap2, cur2, hv, hg2, _⟩
          · cases hv
          cases hv
          have hcc : cur2 = cur := by have := (h2 g _ hg2).1; rw [hgw] at this; cases this; rfl
          subst hcc
          refine ⟨fun k => if k = g then some (.cells (cur2.toList.take (off + n * i.size) ++ news ++ cur2.toList.drop (off + n * i.size + news.length)).toArray e (0, 0)) else none,
            ⟨hlen, h1', .inr ⟨g, off, cap, _, rfl, if_pos rfl, hroom, hcm, ?_, ?_⟩⟩, ?_, ?_⟩
          · simp; omega
          · rw [Nat.add_mul, ← hl]
            exact drop_take_upd cur2.toList xs news off (n * i.size) hcur hlx (by have := Array.length_toList (xs := cur2); omega)
          · intro k o ek
            simp only [] at ek
            split at ek
            · rename_i hk; subst hk; cases ek
              exact ⟨setRow_heap w k cur2 _ e (0, 0) hgw, .inl (by rw [hg2]; simp)⟩
            · cases ek
          · intro k hk hak
            refine setRow_other w g k _ ?_
            intro hkg
            rw [hkg, hg2] at hak; cases hak
        · simp [Builtin.append_, run_underlying ht, sizeOf, typeInfo, hi, Builtin.lenOf, hroom, hf, addr_add, hst]
      · have hr := run_append_grow (P := P) w t ty e i z ht hi hz0 ⟨g, off, none⟩ n cap xs hlx (fun j u hu => by rw [addr_add]; exact hcells j u hu) ad m xc news hl hnews (by omega) (by simp only [maxLen] at b1; omega) (growslice_fits (by omega) b2)
        exact ⟨_, _, _, hr, grown cap (by omega) _ rfl⟩

/-- 'append' at the operation. -/
theorem wp_append_row {o : Oper} {a : Act} {K : Act → World → Prop} {Q : Exit → Act → World → Prop} (E : Elem P t e z size bytes) (s x : Operand)
    (ho : o.op = .call { callee := .builtin .append, args := #[s, x], argTypes := #[t, t] })
    (v vx : Value) (n m : Nat) (xs news : List Value) (hs : a.eval s = v) (hxv : a.eval x = vx) (hS : Sat B (row e size v n xs :: L) w) (hx : reads w vx m news) (hl : news.length = m * size) (h1 : ∀ u ∈ news, u.oneCell' = true)
    (b1 : n + m ≤ maxLen) (b2 : (n + m) * bytes ≤ 140737488355328)
    (h : ∀ a' c w', Sat B (row e size (.slice a' (n + m) c) (n + m) (xs ++ news) :: L) w' → K (a.put o.dst (.slice a' (n + m) c)) w') : o.wp P a w K Q := by
  obtain ⟨a', c, w', hr, hS'⟩ := run_append_row E o.type hS hx hl h1 b1 b2
  unfold Oper.wp execOp
  simp only [ho, resolve, invoke, builtin, Sem.run_bind, Sem.run_pure, Result.andThen_ok, List.map_toArray, List.map_cons, List.map_nil, hs, hxv, hr]
  exact h a' c w' hS'
theorem wpList_append_row {ops : Array Oper} {rest : List Oper} {o : Oper} {a : Act} {Q : Exit → Act → World → Prop} (hgd : o.guard = none) (E : Elem P t e z size bytes) (s x : Operand)
    (ho : o.op = .call { callee := .builtin .append, args := #[s, x], argTypes := #[t, t] })
    (v vx : Value) (n m : Nat) (xs news : List Value) (hs : a.eval s = v) (hxv : a.eval x = vx) (hS : Sat B (row e size v n xs :: L) w) (hx : reads w vx m news) (hl : news.length = m * size) (h1 : ∀ u ∈ news, u.oneCell' = true)
    (b1 : n + m ≤ maxLen) (b2 : (n + m) * bytes ≤ 140737488355328)
    (h : ∀ a' c w', Sat B (row e size (.slice a' (n + m) c) (n + m) (xs ++ news) :: L) w' → wpList P ops Q rest (a.put o.dst (.slice a' (n + m) c)) w') : wpList P ops Q (o :: rest) a w :=
  wpList_plain hgd fun _ hK => wp_append_row E s x ho v vx n m xs news hs hxv hS hx hl h1 b1 b2 fun a' c w' hS' => hK _ _ (h a' c w' hS')
theorem step_append_row {ops : Array Oper} {o : Oper} {a : Act} {K : Act → World → Prop} {Q : Exit → Act → World → Prop} {F : Prop} (hgd : o.guard = none) (E : Elem P t e z size bytes) (s x : Operand)
    (ho : o.op = .call { callee := .builtin .append, args := #[s, x], argTypes := #[t, t] })
    (v vx : Value) (n m : Nat) (xs news : List Value) (hs : a.eval s = v) (hxv : a.eval x = vx) (hS : Sat B (row e size v n xs :: L) w) (hx : reads w vx m news) (hl : news.length = m * size) (h1 : ∀ u ∈ news, u.oneCell' = true)
    (b1 : n + m ≤ maxLen) (b2 : (n + m) * bytes ≤ 140737488355328)
    (h : ∀ a' c w', Sat B (row e size (.slice a' (n + m) c) (n + m) (xs ++ news) :: L) w' → K (a.put o.dst (.slice a' (n + m) c)) w') :
    if Region.wanted o (yielded ops a.tmps) = true then Oper.wp P o a w K Q else F := by
  have hw : Region.wanted o (yielded ops a.tmps) = true := by simp [Region.wanted, hgd]
  rw [if_pos hw]
  exact wp_append_row E s x ho v vx n m xs news hs hxv hS hx hl h1 b1 b2 h

/-- 'copy' into a row: its first elements have become the source's. -/
theorem run_copy_rows (E : Elem P t e z size bytes) (ty sT : TypeId) (hS : Sat B (row e size v n xs :: L) w) (hx : reads w x m news) (hl : news.length = m * size) (h1 : ∀ u ∈ news, u.oneCell' = true) (hmn : m ≤ n) :
    ∃ w', (Builtin.copy_ #[t, sT] ty #[v, x]).run P w = .ok (goInt m) w' ∧ Sat B (row e size v n (news ++ xs.drop (m * size)) :: L) w' := by
  obtain ⟨i, hi, hz0, hz1, hz2⟩ := info_parts E.info
  have ht := E.ht
  subst hz1; subst hz2
  have hone := hS.row_one
  have hlx := hS.row_len
  have hnm : Nat.min m n = m := Nat.min_eq_left hmn
  obtain ⟨xa, xc, rfl, hxn, hxle, hxm, hxc⟩ := hx
  by_cases hm : m = 0
  · subst hm
    obtain rfl : news = [] := List.eq_nil_of_length_eq_zero (by simpa using hl)
    refine ⟨w, ?_, by simpa using hS⟩
    rcases hS.row_form with ⟨rfl, rfl, rfl⟩ | ⟨g, off, cap, rfl, hn, _⟩ <;> cases xa <;>
      simp [Builtin.copy_, run_underlying ht, sizeOf, typeInfo, hi, Builtin.lenOf, Builtin.firstCells, hnm, storeCells, loadCells, loadCellsFrom]
  · obtain ⟨ad, rfl⟩ : ∃ ad, xa = some ad := by
      cases xa with
      | some ad => exact ⟨ad, rfl⟩
      | none => exact absurd (hxn rfl).1 hm
    have hnews := reads_cells (w := w) (a := some ad) (c := xc) (n := m) (xs := news) ⟨_, _, rfl, hxn, hxle, hxm, hxc⟩ ad rfl
    have hmul : m * i.size ≤ n * i.size := Nat.mul_le_mul_right _ hmn
    obtain ⟨y, ⟨_, _, hA⟩, hy⟩ := hS.says
    rcases hA with ⟨hv, h0⟩ | ⟨g, off, cap, cur, hv, hg, hn, hcm, hs, hcur⟩
    · omega
    subst hv
    have hgw := (hy g _ hg).1
    have hcap : n * i.size ≤ cap * i.size := Nat.mul_le_mul_right _ hn
    have hf := run_firstCells_some (P := P) w i.size m ad m xc news hl hnews
    have hst := run_storeCells_at P g off e news 0 cur w hgw (by omega) h1
    simp only [Nat.add_zero] at hst
    refine ⟨w.setRow g (cur.toList.take off ++ news ++ cur.toList.drop (off + news.length)).toArray, ?_, ?_⟩
    · simp [Builtin.copy_, run_underlying ht, sizeOf, typeInfo, hi, Builtin.lenOf, hnm, Builtin.firstCells]
      simp only [Builtin.firstCells] at hf
      simp [hf, hst]
    · refine hS.turn rfl rfl rfl (by simp) fun a ha h2 => ?_
      obtain ⟨_, _, hA⟩ := ha
      rcases hA with ⟨hv, _⟩ | ⟨g2, off2, cap2, cur2, hv, hg2, _⟩
      · cases hv
      cases hv
      have hcc : cur2 = cur := by have := (h2 g _ hg2).1; rw [hgw] at this; cases this; rfl
      subst hcc
      refine ⟨fun k => if k = g then some (.cells (cur2.toList.take off ++ news ++ cur2.toList.drop (off + news.length)).toArray e (0, 0)) else none,
        ⟨?_, ?_, .inr ⟨g, off, cap, _, rfl, if_pos rfl, hn, hcm, ?_, ?_⟩⟩, ?_, ?_⟩
      · simp [hl, hlx]; omega
      · intro u hu
        rcases List.mem_append.1 hu with hu | hu
        · exact h1 u hu
        · exact hone u (List.mem_of_mem_drop hu)
      · simp; omega
      · have hlen : (cur2.toList.take off).length = off := by rw [List.length_take, Array.length_toList]; omega
        have hsz2 : off + cap * i.size ≤ cur2.toList.length := by rw [Array.length_toList]; exact hs
        rw [← hcur, List.append_assoc, List.drop_append_of_le_length (by omega), List.drop_of_length_le (by omega), List.nil_append]
        rw [List.take_append, List.take_of_length_le (by omega), List.drop_take, List.drop_drop, hl]
      · intro k o ek
        simp only [] at ek
        split at ek
        · rename_i hk; subst hk; cases ek
          exact ⟨setRow_heap w k cur2 _ e (0, 0) hgw, .inl (by rw [hg2]; simp)⟩
        · cases ek
      · intro k hk hak
        refine setRow_other w g k _ ?_
        intro hkg
        rw [hkg, hg2] at hak; cases hak
theorem wp_copy_row {o : Oper} {a : Act} {K : Act → World → Prop} {Q : Exit → Act → World → Prop} (E : Elem P t e z size bytes) (s x : Operand) (sT : TypeId)
    (ho : o.op = .call { callee := .builtin .copy, args := #[s, x], argTypes := #[t, sT] })
    (v vx : Value) (n m : Nat) (xs news : List Value) (hs : a.eval s = v) (hxv : a.eval x = vx) (hS : Sat B (row e size v n xs :: L) w) (hx : reads w vx m news) (hl : news.length = m * size) (h1 : ∀ u ∈ news, u.oneCell' = true) (hmn : m ≤ n)
    (h : ∀ w', Sat B (row e size v n (news ++ xs.drop (m * size)) :: L) w' → K (a.put o.dst (goInt m)) w') : o.wp P a w K Q := by
  obtain ⟨w', hr, hS'⟩ := run_copy_rows E o.type sT hS hx hl h1 hmn
  unfold Oper.wp execOp
  simp only [ho, resolve, invoke, builtin, Sem.run_bind, Sem.run_pure, Result.andThen_ok, List.map_toArray, List.map_cons, List.map_nil, hs, hxv, hr]
  exact h w' hS'
/-- 'make' of a slice. -/
theorem run_make_row (E : Elem P t e z size bytes) (hS : Sat B L w) (k c : Nat) (hk : k ≤ c) (hb : bytes * c ≤ 281474976710656) (h63 : c ≤ maxLen) :
    (Instr.makeSlice t (.int .i64 (k : Int)) (.int .i64 (c : Int))).run P w = .ok (.slice (some ⟨w.heap.size, 0, none⟩) k c) (w.alloc (.cells (madeCells z.cells (c * size)) e)) ∧
    Sat B (row e size (.slice (some ⟨w.heap.size, 0, none⟩) k c) k (List.replicate k z.cells.toList).flatten :: L) (w.alloc (.cells (madeCells z.cells (c * size)) e)) := by
  obtain ⟨i, hi, hz0, hz1, hz2⟩ := info_parts E.info
  have hsz := E.sz
  have hpos := E.pos
  subst hz1; subst hz2
  have hmk : ∀ j, (madeCells z.cells (j * i.size)).toList = (List.replicate j z.cells.toList).flatten := by
    intro j
    induction j with
    | zero => simp [madeCells]
    | succ j ih =>
      rw [List.replicate_succ', List.flatten_append, ← ih]
      simp only [List.flatten_cons, List.flatten_nil, List.append_nil]
      refine List.ext_getElem (by simp [madeCells, hsz, Nat.add_mul]) fun q h1 h2 => ?_
      simp only [madeCells, Array.toList_map, Array.toList_range, List.getElem_map, List.getElem_range]
      by_cases hq : q < j * i.size
      · rw [List.getElem_append_left (by simpa using hq)]
        simp
      · rw [List.getElem_append_right (by simpa using hq)]
        simp only [List.length_map, List.length_range, Array.getElem_toList]
        simp only [madeCells, Array.toList_map, Array.toList_range, List.length_map, List.length_range, Nat.add_mul, Nat.one_mul] at h1
        have : q % z.cells.size = q - j * i.size := by
          rw [hsz]
          have : q = (q - j * i.size) + j * i.size := by omega
          rw [this, Nat.add_mul_mod_self_right, Nat.mod_eq_of_lt (by omega)]; omega
        rw [this]
        rw [getElem!_pos z.cells _ (by omega)]
  refine ⟨?_, ?_⟩
  · have := run_make (P := P) w t e i z E.ht hi hz0 .i64 .i64 (k : Int) (c : Int) (by omega) (by omega) (by rw [← Int.natCast_mul]; omega) (by simp only [maxLen] at h63; omega)
    simpa using this
  · refine (hS.alloc _).pt_row _ _ _ _ ?_ ?_ hk h63 (by simp [size_madeCells]) ?_
    · rw [← hmk]; simp [size_madeCells]
    · intro u hu
      obtain ⟨l, hl, hu⟩ := List.mem_flatten.1 hu
      exact E.one u (by rw [(List.mem_replicate.1 hl).2] at hu; exact hu)
    · rw [hmk, List.drop_zero]
      have : c = k + (c - k) := by omega
      rw [this, ← List.replicate_append_replicate, List.flatten_append]
      refine List.take_left' ?_
      simp [hsz]
theorem wp_make_row {o : Oper} {a : Act} {K : Act → World → Prop} {Q : Exit → Act → World → Prop} (E : Elem P t e z size bytes) (x y : Operand)
    (ho : o.op = .makeSlice t x y) (k c : Nat) (hxv : a.eval x = .int .i64 (k : Int)) (hyv : a.eval y = .int .i64 (c : Int)) (hS : Sat B L w) (hk : k ≤ c) (hb : bytes * c ≤ 281474976710656) (h63 : c ≤ maxLen)
    (h : ∀ a' w', Sat B (row e size (.slice a' k c) k (List.replicate k z.cells.toList).flatten :: L) w' → K (a.put o.dst (.slice a' k c)) w') : o.wp P a w K Q := by
  obtain ⟨hr, hS'⟩ := run_make_row E hS k c hk hb h63
  unfold Oper.wp execOp
  simp only [ho, Sem.run_bind, Sem.run_pure, Result.andThen_ok, hxv, hyv, hr]
  exact h _ _ hS'
/-- Bytes as a text. -/
theorem run_bytes_string {src dst e : TypeId} {bs : List UInt8} (hs : P.underlying src = some (.slice e)) (he : P.underlying e = some (.int .u8)) (hd : P.underlying dst = some .string) (hr : reads w v n (u8s bs)) (hn : bs.length = n) :
    (convert src dst v).run P w = .ok (.string ⟨bs.toArray⟩) w := by
  obtain ⟨a, c, rfl, h0, h1, h2, h3⟩ := hr
  cases a with
  | none =>
    obtain ⟨rfl, rfl⟩ := h0 rfl
    rw [List.eq_nil_of_length_eq_zero hn]
    exact run_convert_bytes_nil w src e hs he 0 0 dst hd
  | some ad =>
    by_cases h4 : bs = []
    · subst h4
      simp at hn; subst hn
      have := run_convert_bytes_string w src dst e (some ad) 0 c hs he hd
      rw [this, run_bytesToString w ad 0 c [] (by simp [loadCells, loadCellsFrom])]
      rfl
    · have hpos : 0 < bs.length := List.length_pos_iff.2 h4
      obtain ⟨b, off, hb, _⟩ := h3 0 _ (by rw [List.getElem?_eq_getElem (by simpa [u8s] using hpos)])
      cases hb
      have := run_convert_bytes_arg (P := P) w src e hs he b off n c (bs.map fun b => (b.toNat : Int)) (by simpa using hn) (fun i hi => by
        obtain ⟨b', o', hb', hc'⟩ := h3 i (.int .u8 (bs[i]'(by omega)).toNat) (by simp [u8s, List.getElem?_eq_getElem (show i < bs.length by omega)])
        cases hb'
        rw [hc']
        simp [List.getD, List.getElem?_eq_getElem (show i < bs.length by omega)]) dst hd
      rw [this]
      simp [strOfNums, Function.comp_def]
theorem wp_bytes_string {o : Oper} {a : Act} {K : Act → World → Prop} {Q : Exit → Act → World → Prop} {src dst e : TypeId} (x : Operand) (ho : o.op = .convert src dst x)
    (hs : P.underlying src = some (.slice e)) (he : P.underlying e = some (.int .u8)) (hd : P.underlying dst = some .string) (vx : Value) (n : Nat) (bs : List UInt8) (hxv : a.eval x = vx) (hr : reads w vx n (u8s bs)) (hn : bs.length = n)
    (h : K (a.put o.dst (.string ⟨bs.toArray⟩)) w) : o.wp P a w K Q := by
  have hr' := run_bytes_string hs he hd hr hn
  unfold Oper.wp execOp
  simp only [ho, Sem.run_bind, Sem.run_pure, Result.andThen_ok, hxv, hr']
  exact h
theorem wpList_bytes_string {ops : Array Oper} {rest : List Oper} {o : Oper} {a : Act} {Q : Exit → Act → World → Prop} (hgd : o.guard = none) {src dst e : TypeId} (x : Operand) (ho : o.op = .convert src dst x)
    (hs : P.underlying src = some (.slice e)) (he : P.underlying e = some (.int .u8)) (hd : P.underlying dst = some .string) (vx : Value) (n : Nat) (bs : List UInt8) (hxv : a.eval x = vx) (hr : reads w vx n (u8s bs)) (hn : bs.length = n)
    (h : wpList P ops Q rest (a.put o.dst (.string ⟨bs.toArray⟩)) w) : wpList P ops Q (o :: rest) a w :=
  wpList_plain hgd fun _ hK => wp_bytes_string x ho hs he hd vx n bs hxv hr hn (hK _ _ h)
end
#print axioms wp_append_row
#print axioms wp_copy_row
#print axioms wp_make_row
end Go.Proofs.YtdngjkjoahgelaaGreatDoor

namespace Go.Proofs.YtdngjkjoahgelaaGreatDoor
open Go.RowKit
section
variable {P : Program} {B w : World} {L : List HP}

/-- A variable laid. -/
theorem wp_alloc_any {o : Oper} {a : Act} {K : Act → World → Prop} {Q : Exit → Act → World → Prop} (T : TypeId) (z : Value) (ho : o.op = .alloc T) (hz : (P.info? T).map (·.zero) = some (some z)) (hS : Sat B L w)
    (h : ∀ b w', b = w.heap.size → w' = w.alloc (.cells z.cells T) → Sat B (pt b (.cells z.cells T) :: L) w' → K (a.put o.dst (.pointer (some ⟨b, 0, none⟩))) w') : o.wp P a w K Q := by
  obtain ⟨i, hi, hiz⟩ := Option.map_eq_some_iff.1 hz
  have hr : (Instr.alloc T true (.tuple #[])).run P w = .ok (.pointer (some ⟨w.heap.size, 0, none⟩)) (w.alloc (.cells z.cells T)) := by
    simp [Instr.alloc, zeroValue, typeInfo, hi, hiz, newVar, newRow]
  unfold Oper.wp execOp
  simp only [ho, Sem.run_bind, Sem.run_pure, Result.andThen_ok, hr]
  exact h _ _ rfl rfl (hS.alloc _)
/-- Integers as cells. -/
def ints (k : IntKind) (xs : List Int) : Array Value := (xs.map (Value.int k)).toArray

theorem run_eqItems_same (d : Nat) {e : TypeId} {k k' : IntKind} (he : P.underlying e = some (.int k')) (hc : P.cellsOf e = 1) (xs : List Int) :
    ∀ is : List Nat, (∀ i ∈ is, i < xs.length) → (Op.eqItems (d + 1) e (P.cellsOf e) (ints k xs) (ints k xs) is).run P w = .ok true w := by
  intro is
  induction is with
  | nil => intro _; simp [Op.eqItems]
  | cons j is ih =>
    intro h
    have hj : j < xs.length := h j (by simp)
    have ih' := ih fun i hi => h i (by simp [hi])
    have hp : (part e (ints k xs) (j * P.cellsOf e)).run P w = .ok (.int k xs[j]) w := by
      have hag : (isAgg e).run P w = .ok false w := by simp [isAgg, run_underlying he]
      have hcs : (ints k xs)[j * P.cellsOf e]? = some (.int k xs[j]) := by simp [ints, hc, hj]
      simp [part, hag, hcs]
    simp [Op.eqItems, hp, run_equalIn_int w d e k k' _ _ he, ih']
/-- Two arrays of integers that hold the same. -/
theorem wp_eql_ints {o : Oper} {a : Act} {K : Act → World → Prop} {Q : Exit → Act → World → Prop} (x y : Operand) (T e : TypeId) (n : Nat) (k k' : IntKind) (i : TypeInfo) (ho : o.op = .binOp .eql T x y T) (hT : P.underlying T = some (.array n e)) (hi : P.info? e = some i)
    (he : P.underlying e = some (.int k')) (hc : P.cellsOf e = 1) (hg : P.eqGuardType P.depth T = false) (xs : List Int) (hn : xs.length = n) (hx : a.eval x = .agg (ints k xs)) (hy : a.eval y = .agg (ints k xs))
    (h : K (a.put o.dst (.bool true)) w) : o.wp P a w K Q := by
  have h1 : (eqGuard .eql T x y (.agg (ints k xs)) (.agg (ints k xs))).run P w = .ok () w := by simp [eqGuard, hg]
  have h2 : (binOp .eql T (.agg (ints k xs)) (.agg (ints k xs))).run P w = .ok (.bool true) w := by
    rw [run_eql_struct, run_equalIn_array w 9999 _ _ hT hi, run_eqItems_same 9998 he hc xs _ (fun i hi => by rw [hn]; exact List.mem_range.1 hi)]
    rfl
  unfold Oper.wp execOp
  simp only [ho, Sem.run_bind, Sem.run_pure, Result.andThen_ok, hx, hy, h1, h2]
  exact h
end
#print axioms wp_eql_ints
#print axioms wp_alloc_any
end Go.Proofs.YtdngjkjoahgelaaGreatDoor

namespace Go.Proofs.YtdngjkjoahgelaaGreatDoor
set_option linter.all false
open Go.RowKit
abbrev strV (s : List UInt8) : Value := .string ⟨s.toArray⟩
theorem strV_inj {a b : List UInt8} (h : strV a = strV b) : a = b := by
  have := Value.string.inj h
  have := ByteArray.mk.inj this
  exact Array.toList_inj.2 this |> (by simpa using ·)
/-- A world in which one object has turned. -/
abbrev wPut (w : World) (b : Nat) (o : Obj) : World := { w with heap := w.heap.setIfInBounds b o }
theorem getMap_run {P : Program} {w : World} {b : Nat} {es : Array MapEntry} {cl : Nat} (hb : w.heap[b]? = some (.map es cl)) : (getObj b).run P w = .ok (.map es cl) w := by simp [getObj, Sem.run, hb]
/-- Keys with values, no key twice. -/
structure MapOk (es : List MapEntry) (cl : Nat) (kvs : List (List UInt8 × Value)) : Prop where
  perm : (es.map fun e => (e.key, e.val)).Perm (kvs.map fun p => (strV p.1, p.2))
  born : ∀ e ∈ es, e.born < cl
  nodup : (es.map (·.born)).Nodup
  keys : (kvs.map (·.1)).Nodup
def smap (mb : Nat) (kvs : List (List UInt8 × Value)) : HP := fun h => ∃ es cl, h mb = some (.map es cl) ∧ MapOk es.toList cl kvs
theorem findNow_str (s : ByteArray) : ∀ (es : List MapEntry) (i : Nat), (∀ e ∈ es, ∃ k, e.key = .string k) →
    (Instr.findNow .string (.string s) es i = some none ∧ ∀ e ∈ es, e.key ≠ .string s) ∨
    ∃ j e, es[j]? = some e ∧ e.key = .string s ∧ Instr.findNow .string (.string s) es i = some (some (i + j, e.val))
  | [], i, _ => .inl ⟨rfl, fun e he => by cases he⟩
  | e :: es, i, h => by
    obtain ⟨k, hk⟩ := h e (by simp)
    by_cases hs : s = k
    · subst hs
      have hb : (s == s) = true := by rw [beq_toListBytes]; simp
      exact .inr ⟨0, e, rfl, hk, by simp [Instr.findNow, Instr.sameNow, hk, hb]⟩
    · have hb : (s == k) = false := by
        rw [beq_toListBytes, ByteArray.toList_eq, ByteArray.toList_eq]
        refine beq_eq_false_iff_ne.2 fun hc => hs (ByteArray.ext (Array.toList_inj.1 hc))
      rcases findNow_str s es (i + 1) (fun e he => h e (by simp [he])) with ⟨h1, h2⟩ | ⟨j, e', h1, h2, h3⟩
      · refine .inl ⟨by simp [Instr.findNow, Instr.sameNow, hk, hb, h1], fun e' he' => ?_⟩
        rcases List.mem_cons.1 he' with rfl | he'
        · rw [hk]; intro hc; exact hs (Value.string.inj hc).symm
        · exact h2 e' he'
      · exact .inr ⟨j + 1, e', by simpa using h1, h2, by simp [Instr.findNow, Instr.sameNow, hk, hb, h3]; omega⟩
section
variable {es : List MapEntry} {cl : Nat} {kvs kvs' : List (List UInt8 × Value)} {k : List UInt8} {v : Value}
theorem MapOk.str (h : MapOk es cl kvs) : ∀ e ∈ es, ∃ k, e.key = .string k := fun e he => by
  have : (e.key, e.val) ∈ es.map fun e => (e.key, e.val) := List.mem_map.2 ⟨e, he, rfl⟩
  obtain ⟨p, _, hp⟩ := List.mem_map.1 (h.perm.mem_iff.1 this)
  exact ⟨_, (Prod.mk.inj hp).1.symm⟩
theorem MapOk.val (h : MapOk es cl kvs) (hv : (k, v) ∈ kvs) {e : MapEntry} (he : e ∈ es) (hk : e.key = strV k) : e.val = v := by
  have : (e.key, e.val) ∈ es.map fun e => (e.key, e.val) := List.mem_map.2 ⟨e, he, rfl⟩
  obtain ⟨p, hp1, hp⟩ := List.mem_map.1 (h.perm.mem_iff.1 this)
  obtain ⟨h1, h2⟩ := Prod.mk.inj hp
  have h1 := strV_inj (h1.trans hk)
  have : p = (k, v) := by
    obtain ⟨i, hi, hpi⟩ := List.mem_iff_getElem.1 hp1
    obtain ⟨j, hj, hvj⟩ := List.mem_iff_getElem.1 hv
    have hij : i = j := by
      refine (List.getElem_inj (i := i) (j := j) (h₀ := by simpa using hi) (h₁ := by simpa using hj) h.keys).1 ?_
      simp [hpi, hvj, h1]
    subst hij
    rw [← hpi, hvj]
  rw [this] at h2
  exact h2.symm
theorem MapOk.has (h : MapOk es cl kvs) (hv : (k, v) ∈ kvs) : ∃ e ∈ es, e.key = strV k := by
  have : (strV k, v) ∈ kvs.map fun p => (strV p.1, p.2) := List.mem_map.2 ⟨_, hv, rfl⟩
  obtain ⟨e, he, hp⟩ := List.mem_map.1 (h.perm.mem_iff.2 this)
  exact ⟨e, he, (Prod.mk.inj hp).1⟩
theorem MapOk.hasNot (h : MapOk es cl kvs) (hk : k ∉ kvs.map (·.1)) : ∀ e ∈ es, e.key ≠ strV k := fun e he hc => by
  have : (e.key, e.val) ∈ es.map fun e => (e.key, e.val) := List.mem_map.2 ⟨e, he, rfl⟩
  obtain ⟨p, hp1, hp⟩ := List.mem_map.1 (h.perm.mem_iff.1 this)
  exact hk (List.mem_map.2 ⟨p, hp1, strV_inj ((Prod.mk.inj hp).1.trans hc)⟩)
theorem MapOk.find_hit (h : MapOk es cl kvs) (hv : (k, v) ∈ kvs) : ∃ j e, es[j]? = some e ∧ e.key = strV k ∧ e.val = v ∧ Instr.findNow .string (strV k) es 0 = some (some (j, v)) := by
  rcases findNow_str ⟨k.toArray⟩ es 0 h.str with ⟨_, h2⟩ | ⟨j, e, h1, h2, h3⟩
  · obtain ⟨e, he, hk⟩ := h.has hv
    exact absurd hk (h2 e he)
  · have := h.val hv (List.mem_of_getElem? h1) h2
    rw [this, Nat.zero_add] at h3
    exact ⟨j, e, h1, h2, this, h3⟩
theorem MapOk.find_miss (h : MapOk es cl kvs) (hk : k ∉ kvs.map (·.1)) : Instr.findNow .string (strV k) es 0 = some none := by
  rcases findNow_str ⟨k.toArray⟩ es 0 h.str with ⟨h1, _⟩ | ⟨j, e, h1, h2, h3⟩
  · exact h1
  · exact absurd h2 (h.hasNot hk e (List.mem_of_getElem? h1))
theorem keys_filter (k : List UInt8) (kvs : List (List UInt8 × Value)) (h : (kvs.map (·.1)).Nodup) : ((kvs.filter (·.1 != k)).map (·.1)).Nodup := h.sublist (List.filter_sublist.map _)
/-- In a list with one entry of a key: the others. -/
theorem rest_filter {es : List MapEntry} {kvs : List (List UInt8 × Value)} (h : MapOk es cl kvs) {j : Nat} {e : MapEntry} (he : es[j]? = some e) (hk : e.key = strV k) :
    ((es.eraseIdx j).map fun e => (e.key, e.val)).Perm ((kvs.filter (·.1 != k)).map fun p => (strV p.1, p.2)) := by
  obtain ⟨p, hp1, hp⟩ : ∃ p ∈ kvs, (strV p.1, p.2) = (e.key, e.val) := List.mem_map.1 (h.perm.mem_iff.1 (List.mem_map.2 ⟨e, List.mem_of_getElem? he, rfl⟩))
  obtain ⟨pk, pv⟩ := p
  obtain ⟨hp2, hp3⟩ := Prod.mk.inj hp
  have hpk := strV_inj (hp2.trans hk)
  simp only at hpk hp3
  subst hpk
  obtain ⟨i, hi, hpi⟩ := List.mem_iff_getElem.1 hp1
  have hf : kvs.filter (·.1 != pk) = kvs.eraseIdx i := by
    have hsp : kvs = kvs.take i ++ (pk, pv) :: kvs.drop (i + 1) := by rw [← hpi]; simp
    have hnd := h.keys
    rw [hsp, List.map_append, List.map_cons] at hnd
    obtain ⟨_, hb, hc⟩ := List.nodup_append.1 hnd
    obtain ⟨hb1, _⟩ := List.nodup_cons.1 hb
    rw [List.eraseIdx_eq_take_drop_succ]
    conv => lhs; rw [hsp]
    rw [List.filter_append, List.filter_cons]
    simp only [bne_self_eq_false, Bool.false_eq_true, if_false]
    congr 1
    · refine List.filter_eq_self.2 fun a ha => ?_
      have := hc a.1 (List.mem_map.2 ⟨a, ha, rfl⟩) pk (by simp)
      simpa using this
    · refine List.filter_eq_self.2 fun a ha => ?_
      have : a.1 ≠ pk := fun hc' => hb1 (List.mem_map.2 ⟨a, ha, hc'⟩)
      simpa using this
  rw [hf]
  have e1 : (es.map fun e => (e.key, e.val)).Perm ((strV pk, pv) :: (es.eraseIdx j).map fun e => (e.key, e.val)) := by
    have hj := (List.getElem?_eq_some_iff.1 he)
    obtain ⟨hlt, hej⟩ := hj
    have : es.Perm (e :: es.eraseIdx j) := by
      rw [List.eraseIdx_eq_take_drop_succ]
      conv => lhs; rw [show es = es.take j ++ e :: es.drop (j + 1) by rw [← hej]; simp]
      exact List.perm_middle
    have := this.map fun e => (e.key, e.val)
    rw [List.map_cons] at this
    rw [← hp2, ← hp3] at this
    exact this
  have e2 : (kvs.map fun p => (strV p.1, p.2)).Perm ((strV pk, pv) :: (kvs.eraseIdx i).map fun p => (strV p.1, p.2)) := by
    have : kvs.Perm ((pk, pv) :: kvs.eraseIdx i) := by
      rw [List.eraseIdx_eq_take_drop_succ]
      conv => lhs; rw [show kvs = kvs.take i ++ (pk, pv) :: kvs.drop (i + 1) by rw [← hpi]; simp]
      exact List.perm_middle
    exact this.map fun p => (strV p.1, p.2)
  exact List.Perm.cons_inv ((e1.symm.trans h.perm).trans e2)
theorem MapOk.hit_upd (h : MapOk es cl kvs) {j : Nat} {e : MapEntry} (he : es[j]? = some e) (hk : e.key = strV k) (hp : kvs'.Perm ((k, v) :: kvs.filter (·.1 != k))) :
    MapOk (es.modify j fun e => { e with key := strV k, val := v }) cl kvs' := by
  obtain ⟨hlt, hej⟩ := List.getElem?_eq_some_iff.1 he
  have hm : es.modify j (fun e => { e with key := strV k, val := v }) = es.take j ++ { e with key := strV k, val := v } :: es.drop (j + 1) := by
    rw [List.modify_eq_take_cons_drop hlt, hej]
  have hr := rest_filter h he hk
  rw [List.eraseIdx_eq_take_drop_succ] at hr
  have hborn : (es.modify j fun e => { e with key := strV k, val := v }).map (·.born) = es.map (·.born) := by
    rw [hm]
    conv => rhs; rw [show es = es.take j ++ e :: es.drop (j + 1) by rw [← hej]; simp]
    simp
  refine ⟨?_, fun x hx => ?_, by rw [hborn]; exact h.nodup, ?_⟩
  · rw [hm, List.map_append, List.map_cons]
    refine List.perm_middle.trans ?_
    rw [← List.map_append]
    refine (hr.cons _).trans ?_
    exact ((hp.map fun p => (strV p.1, p.2)).symm)
  · have : x.born ∈ (es.modify j fun e => { e with key := strV k, val := v }).map (·.born) := List.mem_map.2 ⟨x, hx, rfl⟩
    rw [hborn] at this
    obtain ⟨y, hy, hyx⟩ := List.mem_map.1 this
    rw [← hyx]; exact h.born y hy
  · refine ((hp.map (·.1)).nodup_iff).2 ?_
    rw [List.map_cons]
    refine List.nodup_cons.2 ⟨fun hc => ?_, keys_filter k kvs h.keys⟩
    obtain ⟨p, hp1, hp2⟩ := List.mem_map.1 hc
    have := (List.mem_filter.1 hp1).2
    simp at hp2
    simp [hp2] at this
theorem MapOk.miss_upd (h : MapOk es cl kvs) (hk : k ∉ kvs.map (·.1)) (hp : kvs'.Perm ((k, v) :: kvs.filter (·.1 != k))) :
    MapOk (es ++ [{ key := strV k, val := v, born := cl }]) (cl + 1) kvs' := by
  have hf : kvs.filter (·.1 != k) = kvs := List.filter_eq_self.2 fun a ha => by
    have : a.1 ≠ k := fun hc => hk (List.mem_map.2 ⟨a, ha, hc⟩)
    simpa using this
  rw [hf] at hp
  refine ⟨?_, fun x hx => ?_, ?_, ?_⟩
  · rw [List.map_append, List.map_cons, List.map_nil]
    refine (List.perm_append_comm).trans ?_
    exact (h.perm.cons (strV k, v)).trans (hp.map fun p : List UInt8 × Value => (strV p.1, p.2)).symm
  · rcases List.mem_append.1 hx with hx | hx
    · have := h.born x hx; omega
    · simp at hx; subst hx; show cl < cl + 1; omega
  · rw [List.map_append, List.map_cons, List.map_nil]
    refine List.nodup_append.2 ⟨h.nodup, by simp, fun a ha b hb => ?_⟩
    simp at hb
    obtain ⟨x, hx, hxa⟩ := List.mem_map.1 ha
    have := h.born x hx
    omega
  · refine ((hp.map (·.1)).nodup_iff).2 ?_
    rw [List.map_cons]
    exact List.nodup_cons.2 ⟨hk, h.keys⟩
theorem MapOk.hit_del (h : MapOk es cl kvs) {j : Nat} {e : MapEntry} (he : es[j]? = some e) (hk : e.key = strV k) (hp : kvs'.Perm (kvs.filter (·.1 != k))) : MapOk (es.eraseIdx j) cl kvs' :=
  ⟨(rest_filter h he hk).trans (hp.map fun p => (strV p.1, p.2)).symm, fun x hx => h.born x (List.mem_of_mem_eraseIdx hx), h.nodup.sublist ((List.eraseIdx_sublist _ _).map _),
    ((hp.map (·.1)).nodup_iff).2 (keys_filter k kvs h.keys)⟩
theorem MapOk.of_perm (h : MapOk es cl kvs) (hp : kvs'.Perm kvs) : MapOk es cl kvs' :=
  ⟨h.perm.trans (hp.map fun p => (strV p.1, p.2)).symm, h.born, h.nodup, ((hp.map (·.1)).nodup_iff).2 h.keys⟩
end
section
variable {P : Program} {B w : World} {L : List HP} {mb : Nat} {kvs kvs' : List (List UInt8 × Value)} {k : List UInt8} {v z : Value} {t kt e : TypeId}
theorem Sat.smap_at (h : Sat B (smap mb kvs :: L) w) : ∃ es cl, w.heap[mb]? = some (.map es cl) ∧ MapOk es.toList cl kvs := by
  obtain ⟨a, ⟨es, cl, h1, h2⟩, h3⟩ := h.says
  exact ⟨es, cl, (h3 _ _ h1).1, h2⟩
theorem Sat.smap_perm (h : Sat B (smap mb kvs :: L) w) (hp : kvs'.Perm kvs) : Sat B (smap mb kvs' :: L) w := h.head fun _ ⟨es, cl, h1, h2⟩ => ⟨es, cl, h1, h2.of_perm hp⟩
theorem Sat.smap_put {es' : Array MapEntry} {cl' : Nat} (h : Sat B (smap mb kvs :: L) w) (hk : MapOk es'.toList cl' kvs') : Sat B (smap mb kvs' :: L) (wPut w mb (.map es' cl')) := by
  obtain ⟨es, cl, hh, _⟩ := h.smap_at
  have hlt := (Array.getElem?_eq_some_iff.1 hh).1
  refine h.turn rfl rfl rfl (by simp [wPut]) fun a ha _ => ⟨fun j => if j = mb then some (.map es' cl') else none, ⟨es', cl', by simp, hk⟩, ?_, ?_⟩
  · intro j o e
    simp only [] at e
    split at e
    · rename_i hj; subst hj; cases e
      obtain ⟨es0, cl0, ha0, _⟩ := ha
      refine ⟨?_, .inl (by rw [ha0]; simp)⟩
      simp [wPut, Array.getElem?_setIfInBounds, hlt]
    · cases e
  · intro j hj hak
    obtain ⟨es0, cl0, ha0, _⟩ := ha
    have : j ≠ mb := fun hc => by subst hc; rw [ha0] at hak; cases hak
    simp [wPut, Array.getElem?_setIfInBounds, Ne.symm this]
theorem checkKey_str (hk : P.underlying kt = some .string) (b : Bool) (s : ByteArray) (w : World) : (Instr.checkKey b 10000 kt (.string s)).run P w = .ok () w := by
  obtain ⟨d, hd⟩ : ∃ d, 10000 = d + 1 := ⟨9999, rfl⟩
  rw [hd]
  simp [Instr.checkKey, run_underlying hk]
theorem findKey_str (hk : P.underlying kt = some .string) {es : List MapEntry} {x : Option (Nat × Value)} (hf : Instr.findNow .string (strV k) es 0 = some x) (w : World) : (Instr.findKey kt (strV k) es).run P w = .ok x w := by
  simp [Instr.findKey, run_underlying hk, hf]
theorem run_setMap {b : Nat} {es es' : Array MapEntry} {cl cl' : Nat} (hb : w.heap[b]? = some (.map es cl)) : (setObj b (.map es' cl')).run P w = .ok () (wPut w b (.map es' cl')) := by
  simp [setObj, Sem.run, hb]
theorem run_lookup_hit (ht : P.underlying t = some (.map kt e)) (hk : P.underlying kt = some .string) (h : Sat B (smap mb kvs :: L) w) (hv : (k, v) ∈ kvs) (ok : Bool) :
    (Instr.lookup t (.map (some mb)) (strV k) ok).run P w = .ok (if ok then .tuple #[v, .bool true] else v) w := by
  obtain ⟨es, cl, hh, hm⟩ := h.smap_at
  obtain ⟨j, en, _, _, _, h4⟩ := hm.find_hit hv
  have := findKey_str (P := P) hk h4 w
  simp [Instr.lookup, run_underlying ht, getMap_run hh, checkKey_str hk, this]
theorem run_lookup_miss (ht : P.underlying t = some (.map kt e)) (hk : P.underlying kt = some .string) (hz : (P.info? e).map (·.zero) = some (some z)) (h : Sat B (smap mb kvs :: L) w) (hv : k ∉ kvs.map (·.1)) (ok : Bool) :
    (Instr.lookup t (.map (some mb)) (strV k) ok).run P w = .ok (if ok then .tuple #[z, .bool false] else z) w := by
  obtain ⟨es, cl, hh, hm⟩ := h.smap_at
  have := findKey_str (P := P) hk (hm.find_miss hv) w
  obtain ⟨i, hi, hiz⟩ := Option.map_eq_some_iff.1 hz
  have hzr : (zeroValue e).run P w = .ok z w := by simp [zeroValue, typeInfo, hi, hiz]
  simp [Instr.lookup, run_underlying ht, getMap_run hh, checkKey_str hk, this, hzr]
theorem run_update (ht : P.underlying t = some (.map kt e)) (hk : P.underlying kt = some .string) (h : Sat B (smap mb kvs :: L) w) (hp : kvs'.Perm ((k, v) :: kvs.filter (·.1 != k))) :
    ∃ w', (Instr.mapUpdate t (.map (some mb)) (strV k) v).run P w = .ok () w' ∧ Sat B (smap mb kvs' :: L) w' := by
  obtain ⟨es, cl, hh, hm⟩ := h.smap_at
  by_cases hin : k ∈ kvs.map (·.1)
  · obtain ⟨⟨pk, pv⟩, hp1, hp2⟩ := List.mem_map.1 hin
    simp only at hp2
    subst hp2
    obtain ⟨j, en, h1, h2, _, h4⟩ := hm.find_hit hp1
    have hf := findKey_str (P := P) hk h4 w
    have hkey : ((es[j]?).map (·.key)).getD (strV pk) = strV pk := by
      rw [← Array.getElem?_toList, h1]; simpa using h2
    have hst : (Instr.keyThatStays (strV pk) (strV pk)).run P w = .ok (strV pk) w := by
      obtain ⟨d, hd⟩ : ∃ d, 10000 = d + 1 := ⟨9999, rfl⟩
      have hbb : ((⟨pk.toArray⟩ : ByteArray) == ⟨pk.toArray⟩) = true := by rw [beq_toListBytes]; simp
      simp [Instr.keyThatStays, hd, Instr.sameBits, hbb]
    refine ⟨wPut w mb (.map (es.modify j fun e => { e with key := strV pk, val := v }) cl), ?_, h.smap_put (by rw [Array.toList_modify]; exact hm.hit_upd h1 h2 hp)⟩
    simp [Instr.mapUpdate, run_underlying ht, getMap_run hh, checkKey_str hk, hf, hkey, hst, run_setMap hh]
  · have hf := findKey_str (P := P) hk (hm.find_miss hin) w
    refine ⟨wPut w mb (.map (es.push { key := strV k, val := v, born := cl }) (cl + 1)), ?_, h.smap_put (by rw [Array.toList_push]; exact hm.miss_upd hin hp)⟩
    simp [Instr.mapUpdate, run_underlying ht, getMap_run hh, checkKey_str hk, hf, run_setMap hh]
theorem run_delete (ht : P.underlying t = some (.map kt e)) (hk : P.underlying kt = some .string) (h : Sat B (smap mb kvs :: L) w) (hp : kvs'.Perm (kvs.filter (·.1 != k))) (u ty : TypeId) :
    ∃ w', (Builtin.delete_ #[t, u] ty #[.map (some mb), strV k]).run P w = .ok (.tuple #[]) w' ∧ Sat B (smap mb kvs' :: L) w' := by
  obtain ⟨es, cl, hh, hm⟩ := h.smap_at
  by_cases hin : k ∈ kvs.map (·.1)
  · obtain ⟨⟨pk, pv⟩, hp1, hp2⟩ := List.mem_map.1 hin
    simp only at hp2
    subst hp2
    obtain ⟨j, en, h1, h2, _, h4⟩ := hm.find_hit hp1
    have hf := findKey_str (P := P) hk h4 w
    refine ⟨wPut w mb (.map (es.eraseIdxIfInBounds j) cl), ?_, h.smap_put (by rw [Array.toList_eraseIdxIfInBounds]; exact hm.hit_del h1 h2 hp)⟩
    simp [Builtin.delete_, run_underlying ht, getMap_run hh, checkKey_str hk, hf, run_setMap hh]
  · have hf := findKey_str (P := P) hk (hm.find_miss hin) w
    have hfl : kvs.filter (·.1 != k) = kvs := List.filter_eq_self.2 fun a ha => by
      have : a.1 ≠ k := fun hc => hin (List.mem_map.2 ⟨a, ha, hc⟩)
      simpa using this
    rw [hfl] at hp
    refine ⟨wPut w mb (.map es cl), ?_, h.smap_put (hm.of_perm hp)⟩
    simp [Builtin.delete_, run_underlying ht, getMap_run hh, checkKey_str hk, hf, run_setMap hh]
/-! ### At an operation -/
variable {ops : Array Oper} {rest : List Oper} {o : Oper} {a : Act} {Q : Exit → Act → World → Prop}
theorem wpList_lookup_hit (hgd : o.guard = none) (ht : P.underlying t = some (.map kt e)) (hk : P.underlying kt = some .string) (x y : Operand) (ho : o.op = .lookup t x y false) (hx : a.eval x = .map (some mb)) (hy : a.eval y = strV k)
    (h : Sat B (smap mb kvs :: L) w) (hv : (k, v) ∈ kvs) (hK : wpList P ops Q rest (a.put o.dst v) w) : wpList P ops Q (o :: rest) a w :=
  wpList_plain hgd fun _ hKK => by
    have hr := run_lookup_hit (P := P) ht hk h hv false
    unfold Oper.wp execOp
    simp only [ho, hx, hy, Sem.run_bind, Sem.run_pure, Result.andThen_ok, hr]
    exact hKK _ _ hK
theorem wpList_lookup_miss (hgd : o.guard = none) (ht : P.underlying t = some (.map kt e)) (hk : P.underlying kt = some .string) (hz : (P.info? e).map (·.zero) = some (some z)) (x y : Operand) (ho : o.op = .lookup t x y false) (hx : a.eval x = .map (some mb)) (hy : a.eval y = strV k)
    (h : Sat B (smap mb kvs :: L) w) (hv : k ∉ kvs.map (·.1)) (hK : wpList P ops Q rest (a.put o.dst z) w) : wpList P ops Q (o :: rest) a w :=
  wpList_plain hgd fun _ hKK => by
    have hr := run_lookup_miss (P := P) ht hk hz h hv false
    unfold Oper.wp execOp
    simp only [ho, hx, hy, Sem.run_bind, Sem.run_pure, Result.andThen_ok, hr]
    exact hKK _ _ hK
theorem wpList_mapUpdate (hgd : o.guard = none) (ht : P.underlying t = some (.map kt e)) (hk : P.underlying kt = some .string) (x y q : Operand) (ho : o.op = .mapUpdate t x y q) (hx : a.eval x = .map (some mb)) (hy : a.eval y = strV k) (hq : a.eval q = v)
    (h : Sat B (smap mb kvs :: L) w) (kvs' : List (List UInt8 × Value)) (hp : kvs'.Perm ((k, v) :: kvs.filter (·.1 != k))) (hK : ∀ w', Sat B (smap mb kvs' :: L) w' → wpList P ops Q rest (a.put o.dst undef) w') : wpList P ops Q (o :: rest) a w :=
  wpList_plain hgd fun _ hKK => by
    obtain ⟨w', hr, hs⟩ := run_update (P := P) ht hk h hp
    unfold Oper.wp execOp
    simp only [ho, hx, hy, hq, Sem.run_bind, Sem.run_pure, Result.andThen_ok, hr]
    exact hKK _ _ (hK w' hs)
theorem wpList_delete (hgd : o.guard = none) (ht : P.underlying t = some (.map kt e)) (hk : P.underlying kt = some .string) (x y : Operand) (u : TypeId) (ho : o.op = .call { callee := .builtin .delete, args := #[x, y], argTypes := #[t, u] }) (hx : a.eval x = .map (some mb)) (hy : a.eval y = strV k)
    (h : Sat B (smap mb kvs :: L) w) (kvs' : List (List UInt8 × Value)) (hp : kvs'.Perm (kvs.filter (·.1 != k))) (hK : ∀ w', Sat B (smap mb kvs' :: L) w' → wpList P ops Q rest (a.put o.dst (.tuple #[])) w') : wpList P ops Q (o :: rest) a w :=
  wpList_plain hgd fun _ hKK => by
    obtain ⟨w', hr, hs⟩ := run_delete (P := P) ht hk h hp u o.type
    unfold Oper.wp execOp
    simp only [ho, resolve, invoke, builtin, Sem.run_bind, Sem.run_pure, Result.andThen_ok, List.map_toArray, List.map_cons, List.map_nil, hx, hy, hr]
    exact hKK _ _ (hK w' hs)
theorem Sat.smap_new (h : Sat B L w) : Sat B (smap w.heap.size [] :: L) (w.alloc (.map #[] 0)) :=
  (h.alloc _).head fun _ hy => ⟨#[], 0, hy, ⟨List.Perm.refl _, fun e he => (by cases he), List.nodup_nil, List.nodup_nil⟩⟩
end
#print axioms wpList_mapUpdate
end Go.Proofs.YtdngjkjoahgelaaGreatDoor

namespace Go.Proofs.YtdngjkjoahgelaaGreatDoor
open Go.RowKit
section
variable {B w : World} {L : List HP} {e : TypeId} {size n : Nat} {xs : List Value}
theorem Sat.row_set {g off c : Nat} (h : Sat B (row e size (.slice (some ⟨g, off, none⟩) n c) n xs :: L) w) (j : Nat) (hj : j < n * size) {u : Value} (hu : u.oneCell' = true) :
    Sat B (row e size (.slice (some ⟨g, off, none⟩) n c) n (xs.set j u) :: L) (w.setCell ⟨g, off + j, none⟩ u) := by
  obtain ⟨y, ⟨p, q, hd, hp, hq, hA, hL⟩, h2⟩ := h.own
  obtain ⟨hl, h1, hA⟩ := hA
  rcases hA with ⟨hv, h0⟩ | ⟨g', off', cap, cur, hv, hg, hnc, hm, hs, ht⟩
  · cases hv
  · cases hv
    have hp' : Sat B (pt g (.cells cur e) :: L) w := ⟨h.os, h.tape, h.output, h.size, h.old, y, ⟨p, q, hd, hp, hq, hg, hL⟩, h2⟩
    have hle : n * size ≤ c * size := Nat.mul_le_mul_right _ hnc
    have h3 := hp'.set (j := off + j) u
    refine h3.pt_row n c off _ (by simpa using hl) ?_ hnc hm (by simpa using hs) ?_
    · intro v hv
      rcases List.mem_or_eq_of_mem_set hv with hv | hv
      · exact h1 v hv
      · subst hv; exact hu
    · simp only [Array.toList_setIfInBounds]
      rw [← ht]
      apply List.ext_getElem?
      intro i
      simp only [List.getElem?_take, List.getElem?_drop, List.getElem?_set, List.length_take, List.length_drop, Array.length_toList]
      by_cases hi : i < n * size
      · simp only [hi, if_true]
        by_cases hij : off + j = off + i
        · have hij' : j = i := by omega
          subst hij'
          simp only [if_true]
          rw [if_pos (by omega), if_pos (by omega)]
        · rw [if_neg hij, if_neg (by omega)]
      · simp only [hi, if_false]
        rw [if_neg (by omega)]
/-- What a row's element holds. -/
theorem Sat.row_cell {a : Option Addr} {c : Nat} (h : Sat B (row e size (.slice a n c) n xs :: L) w) (j : Nat) (hj : j < n * size) :
    ∃ g off, a = some ⟨g, off, none⟩ ∧ w.cell? ⟨g, off + j, none⟩ = xs[j]? ∧ w.frozen? ⟨g, off + j, none⟩ = false ∧ g < w.heap.size ∧ (xs[j]?).isSome = true := by
  have hl := h.row_len
  rcases h.row_form with ⟨hv, h0, _⟩ | ⟨g, off, cap, hv, _, _, _, hlt, hc, hf, _⟩
  · subst h0; omega
  · cases hv
    obtain ⟨u, hu⟩ : ∃ u, xs[j]? = some u := ⟨_, List.getElem?_eq_getElem (by omega)⟩
    exact ⟨g, off, rfl, by rw [hc j u hu, hu], hf _, hlt, by rw [hu]; rfl⟩
end
end Go.Proofs.YtdngjkjoahgelaaGreatDoor

namespace Go.Proofs.YtdngjkjoahgelaaGreatDoor
set_option linter.all false
open Go.RowKit
section
variable {P : Program} {B w w' : World} {L : List HP} {t e : TypeId} {n : Nat} {v z : Value} {xs : List Value}
theorem Sat.of_owns (h : Sat B L w) (hb : Below w.heap.size w w') (ho : w'.ownsRow w.heap.size e 1 v n xs) (h1 : ∀ u ∈ xs, u.oneCell' = true) : Sat B (row e 1 v n xs :: L) w' := by
  obtain ⟨hl, ho⟩ := ho
  refine (Sat.fact_in (p := True) trivial h).turn hb.os hb.tape hb.output hb.size fun a _ h2 => ?_
  rcases ho with ⟨rfl, rfl⟩ | ⟨g, cap, cur, rfl, hg, hc, hn, hm, hs, ht⟩
  · refine ⟨fun _ => none, ⟨hl, h1, .inl ⟨rfl, rfl⟩⟩, (fun k o e => by cases e), fun k hk _ => hb.block k hk⟩
  · refine ⟨fun k => if k = g then some (.cells cur e (0, 0)) else none, ⟨hl, h1, .inr ⟨g, 0, cap, cur, rfl, if_pos rfl, hn, hm, by omega, by rw [List.drop_zero]; exact ht⟩⟩, fun k o ek => ?_, fun k hk _ => hb.block k hk⟩
    simp only [] at ek
    split at ek
    · rename_i hk; subst hk; cases ek; exact ⟨hc, .inr hg⟩
    · cases ek
theorem run_clear_row (ty : TypeId) (ht : P.underlying t = some (.slice e)) (hz : ∀ w, (zeroValue e).run P w = .ok z w) (hc : z.cells = #[z]) (hz1 : z.oneCell' = true) {g off cap : Nat}
    (hS : Sat B (row e 1 (.slice (some ⟨g, off, none⟩) n cap) n xs :: L) w) (i m cc : Nat) (a : Option Addr) (hi : i + m = n) (ha : m = 0 ∨ a = some ⟨g, off + i, none⟩) :
    ∃ w', (Builtin.clear_ #[t] ty #[.slice a m cc]).run P w = .ok (.tuple #[]) w' ∧ Sat B (row e 1 (.slice (some ⟨g, off, none⟩) n cap) n (xs.take i ++ List.replicate m z) :: L) w' := by
  have hlx := hS.row_len
  have hone := hS.row_one
  by_cases hm0 : m = 0
  · subst hm0
    refine ⟨w, ?_, ?_⟩
    · cases a <;> simp [Builtin.clear_, run_underlying ht]
    · rw [List.take_of_length_le (by omega), List.replicate_zero, List.append_nil]; exact hS
  · obtain rfl := ha.resolve_left hm0
    obtain ⟨y, ⟨_, _, hA⟩, hy⟩ := hS.says
    rcases hA with ⟨hv, _⟩ | ⟨g', off', cap', cur, hv, hg, hn, hcm, hs, hcur⟩
    · cases hv
    cases hv
    have hgw := (hy g _ hg).1
    have hzs : ∀ u ∈ List.replicate m z, u.oneCell' = true := fun u hu => by rw [List.eq_of_mem_replicate hu]; exact hz1
    have hst := run_storeCells_at P g (off + i) e (List.replicate m z) 0 cur w hgw (by simp; omega) hzs
    simp only [Nat.add_zero] at hst
    have hzc : (Builtin.zeroCells z.cells m).toList = List.replicate m z := by
      rw [hc]
      simp [Builtin.zeroCells]
      apply List.ext_getElem
      · simp
      · intro i h1 h2
        simp [Nat.mod_one]
    refine ⟨w.setRow g (cur.toList.take (off + i) ++ List.replicate m z ++ cur.toList.drop (off + i + (List.replicate m z).length)).toArray, ?_, ?_⟩
    · obtain ⟨q, rfl⟩ : ∃ q, m = q + 1 := ⟨m - 1, by omega⟩
      simp [Builtin.clear_, run_underlying ht, hz, hzc]
      simp at hst
      simp [hst]
    · refine hS.turn rfl rfl rfl (by simp) fun a ha h2 => ?_
      obtain ⟨_, _, hA⟩ := ha
      rcases hA with ⟨hv, _⟩ | ⟨g2, off2, cap2, cur2, hv, hg2, _⟩
      · cases hv
      cases hv
      have hcc : cur2 = cur := by have := (h2 g _ hg2).1; rw [hgw] at this; cases this; rfl
      subst hcc
      refine ⟨fun k => if k = g then some (.cells (cur2.toList.take (off + i) ++ List.replicate m z ++ cur2.toList.drop (off + i + (List.replicate m z).length)).toArray e (0, 0)) else none,
        ⟨?_, ?_, .inr ⟨g, off, cap, _, rfl, if_pos rfl, hn, hcm, ?_, ?_⟩⟩, ?_, ?_⟩
      · simp [hlx]; omega
      · intro u hu
        rcases List.mem_append.1 hu with hu | hu
        · exact hone u (List.mem_of_mem_take hu)
        · exact hzs u hu
      · simp; omega
      · have hlen : (cur2.toList.take (off + i)).length = off + i := by rw [List.length_take, Array.length_toList]; omega
        have e1 : cur2.toList.take (off + i) = cur2.toList.take off ++ xs.take i := by
          rw [List.take_add, ← hcur, List.take_take, Nat.min_eq_left (by omega)]
        have hlo : (cur2.toList.take off).length = off := by rw [List.length_take, Array.length_toList]; omega
        rw [e1, List.append_assoc, List.append_assoc, List.drop_append_of_le_length (by omega), List.drop_of_length_le (by omega), List.nil_append, ← List.append_assoc]
        rw [List.take_append_of_le_length (by simp; omega), List.take_of_length_le (by simp; omega)]
      · intro k o ek
        simp only [] at ek
        split at ek
        · rename_i hk; subst hk; cases ek
          exact ⟨setRow_heap w k cur2 _ e (0, 0) hgw, .inl (by rw [hg2]; simp)⟩
        · cases ek
      · intro k hk hak
        refine setRow_other w g k _ ?_
        intro hkg
        rw [hkg, hg2] at hak; cases hak
theorem wpList_clear_row {ops : Array Oper} {rest : List Oper} {o : Oper} {a : Act} {Q : Exit → Act → World → Prop} (hgd : o.guard = none) (ht : P.underlying t = some (.slice e)) (hz : ∀ w, (zeroValue e).run P w = .ok z w) (hc : z.cells = #[z]) (hz1 : z.oneCell' = true) (x : Operand)
    (ho : o.op = .call { callee := .builtin .clear, args := #[x], argTypes := #[t] }) {g off cap : Nat} (i m cc : Nat) (ad : Option Addr) (hxv : a.eval x = .slice ad m cc)
    (hS : Sat B (row e 1 (.slice (some ⟨g, off, none⟩) n cap) n xs :: L) w) (hi : i + m = n) (ha : m = 0 ∨ ad = some ⟨g, off + i, none⟩)
    (h : ∀ w', Sat B (row e 1 (.slice (some ⟨g, off, none⟩) n cap) n (xs.take i ++ List.replicate m z) :: L) w' → wpList P ops Q rest (a.put o.dst (.tuple #[])) w') : wpList P ops Q (o :: rest) a w :=
  wpList_plain hgd fun _ hK => by
    obtain ⟨w', hr, hS'⟩ := run_clear_row o.type ht hz hc hz1 hS i m cc ad hi ha
    unfold Oper.wp execOp
    simp only [ho, resolve, invoke, builtin, Sem.run_bind, Sem.run_pure, Result.andThen_ok, List.map_toArray, List.map_cons, List.map_nil, hxv, hr]
    exact hK _ _ (h w' hS')
end
#print axioms wpList_clear_row
end Go.Proofs.YtdngjkjoahgelaaGreatDoor
