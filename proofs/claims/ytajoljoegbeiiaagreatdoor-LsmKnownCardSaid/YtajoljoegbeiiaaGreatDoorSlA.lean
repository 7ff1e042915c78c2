/-
  A small separation logic over the model's heap: assertions on heaplets, 'Sat' (a world that keeps an elder one below its size and meets a list of separate assertions), rows (slices that own their cells), and append, copy, make told in it. append, copy and make in the small separation logic of XSl: laws at an operation, over any program. More laws at an operation in the small separation logic: a variable that is laid, two arrays of integers held against each other. A store into a row. A slice that a contract hands back, as a row; 'clear' of a row's end. Disks, in plain Lean: files in order of their names; what Append, Sync, Rename, Remove, List, Crash make of them. Logs, in plain Lean: sums, frames, what a scan finds; names of files. Texts as bytes. (The short form of WlF: for seats that want seal.Sum alone.) seal: table, Sum: contracts.
-/
import Derived.WalkKit
import Derived.WalkSpells
import Derived.WalkLawsBesides
import Derived.Deep.AppendLies
import Derived.Deep.RegionLaw
import Derived.Laws.CopyOwn
import Derived.ChangeKeysEq
import Derived.Lib.SliceRun
import Derived.Lib.ItoaNum
import Derived.Test.YtajoljoegbeiiaaGreatDoorProg
import Derived.Lib.AppendIntMem
import Derived.Deep.LoopGhost
import Derived.Lib.Hide
import Derived.BigRegion
import Derived.Deep.RegionWith
import Derived.Deep.QuietTactic
import Derived.BigQuiet
import Derived.Laws.BitsAllLaws
namespace Go.Proofs.YtajoljoegbeiiaaGreatDoor
open Go.RowKit

abbrev Hl := Nat → Option Obj
abbrev HP := Hl → Prop

def hjoin (a b : Hl) : Hl := fun k => (a k).or (b k)
theorem hjoin_of {a b : Hl} {k : Nat} {o : Obj} (h : hjoin a b k = some o) : a k = some o ∨ (a k = none ∧ b k = some o) := by
  unfold hjoin at h
  cases ha : a k with
  | none => rw [ha] at h; exact .inr ⟨rfl, by simpa using h⟩
  | some x => rw [ha] at h; exact .inl (by simpa using h)
theorem hjoin_l {a b : Hl} {k : Nat} {o : Obj} (h : a k = some o) : hjoin a b k = some o := by simp [hjoin, h]
theorem hjoin_r {a b : Hl} {k : Nat} {o : Obj} (h : a k = none) (h' : b k = some o) : hjoin a b k = some o := by simp [hjoin, h, h']
theorem hjoin_none {a b : Hl} {k : Nat} (h : a k = none) (h' : b k = none) : hjoin a b k = none := by simp [hjoin, h, h']
theorem none_of_sub {a h : Hl} {k : Nat} (ha : ∀ k o, a k = some o → h k = some o) (hk : h k = none) : a k = none := by
  cases hak : a k with
  | none => rfl
  | some o => rw [ha k o hak] at hk; cases hk

/-- Pairwise apart pieces of a heaplet that meet a list of assertions; what is left over is forgotten. -/
def stars : List HP → HP
  | [] => fun _ => True
  | A :: L => fun h => ∃ a b : Hl, (∀ k, a k = none ∨ b k = none) ∧ (∀ k o, a k = some o → h k = some o) ∧ (∀ k o, b k = some o → h k = some o) ∧ A a ∧ stars L b

theorem stars_up {L : List HP} {h h' : Hl} (hs : stars L h) (hh : ∀ k o, h k = some o → h' k = some o) : stars L h' := by
  cases L with
  | nil => trivial
  | cons A L =>
    obtain ⟨a, b, hd, ha, hb, hA, hL⟩ := hs
    exact ⟨a, b, hd, fun k o e => hh k o (ha k o e), fun k o e => hh k o (hb k o e), hA, hL⟩

theorem stars_swap {A C : HP} {L : List HP} {h : Hl} (hs : stars (A :: C :: L) h) : stars (C :: A :: L) h := by
  obtain ⟨a, b, hd, ha, hb, hA, c, d, hd', hc, hdd, hC, hL⟩ := hs
  refine ⟨c, hjoin a d, ?_, fun k o e => hb k o (hc k o e), ?_, hC, a, d, ?_, fun k o e => hjoin_l e, ?_, hA, hL⟩
  · intro k
    rcases hd' k with h1 | h1
    · exact .inl h1
    · rcases hd k with h2 | h2
      · exact .inr (hjoin_none h2 h1)
      · exact .inl (none_of_sub hc h2)
  · intro k o e
    rcases hjoin_of e with e | ⟨_, e⟩
    · exact ha k o e
    · exact hb k o (hdd k o e)
  · intro k
    rcases hd k with h2 | h2
    · exact .inl h2
    · exact .inr (none_of_sub hdd h2)
  · intro k o e
    refine hjoin_r ((hd k).resolve_right ?_) e
    rw [hdd k o e]; simp

theorem stars_tail {A : HP} {L L' : List HP} (hL : ∀ h, stars L h → stars L' h) {h : Hl} (hs : stars (A :: L) h) : stars (A :: L') h := by
  obtain ⟨a, b, hd, ha, hb, hA, hLL⟩ := hs
  exact ⟨a, b, hd, ha, hb, hA, hL b hLL⟩

theorem stars_pull : ∀ (i : Nat) (L : List HP) (A : HP), L[i]? = some A → ∀ h, stars L h → stars (A :: L.eraseIdx i) h
  | _, [], _, e => by simp at e
  | 0, C :: L, A, e => by
    simp at e; subst e; intro h hs; exact hs
  | i + 1, C :: L, A, e => by
    intro h hs
    have e' : L[i]? = some A := by simpa using e
    exact stars_swap (stars_tail (stars_pull i L A e') hs)

theorem stars_push : ∀ (i : Nat) (L : List HP) (A : HP), L[i]? = some A → ∀ h, stars (A :: L.eraseIdx i) h → stars L h
  | _, [], _, e => by simp at e
  | 0, C :: L, A, e => by
    simp at e; subst e; intro h hs; exact hs
  | i + 1, C :: L, A, e => by
    intro h hs
    have e' : L[i]? = some A := by simpa using e
    exact stars_tail (stars_push i L A e') (stars_swap hs)

theorem stars_drop {A : HP} {L : List HP} {h : Hl} (hs : stars (A :: L) h) : stars L h := by
  obtain ⟨_, b, _, _, hb, _, hL⟩ := hs
  exact stars_up hL hb

theorem stars_flat : ∀ (L M : List HP) (h : Hl), stars (stars L :: M) h → stars (L ++ M) h
  | [], M, h, hs => stars_drop hs
  | A :: L, M, h, hs => by
    obtain ⟨x, b, hd, hx, hb, ⟨a, l, hal, ha, hl, hA, hL⟩, hM⟩ := hs
    refine ⟨a, hjoin l b, ?_, fun k o e => hx k o (ha k o e), ?_, hA, stars_flat L M _ ⟨l, b, ?_, fun k o e => hjoin_l e, ?_, hL, hM⟩⟩
    · intro k
      rcases hal k with h1 | h1
      · exact .inl h1
      · rcases hd k with h2 | h2
        · exact .inl (none_of_sub ha h2)
        · exact .inr (hjoin_none h1 h2)
    · intro k o e
      rcases hjoin_of e with e | ⟨_, e⟩
      · exact hx k o (hl k o e)
      · exact hb k o e
    · intro k
      rcases hd k with h2 | h2
      · exact .inl (none_of_sub hl h2)
      · exact .inr h2
    · intro k o e
      refine hjoin_r (none_of_sub hl ((hd k).resolve_right ?_)) e
      rw [e]; simp

theorem stars_head {A A' : HP} {L : List HP} (hA : ∀ h, A h → A' h) {h : Hl} (hs : stars (A :: L) h) : stars (A' :: L) h := by
  obtain ⟨a, b, hd, ha, hb, hAa, hL⟩ := hs
  exact ⟨a, b, hd, ha, hb, hA a hAa, hL⟩

/-- Block b is just o. -/
def pt (b : Nat) (o : Obj) : HP := fun h => h b = some o
/-- Some x. -/
def ex {α : Type} (P : α → HP) : HP := fun h => ∃ x, P x h
/-- A plain fact. -/
def fact (p : Prop) : HP := fun _ => p

/-- 'w' is 'B' below B's size, and has, beyond, what the list says, each apart from the others. -/
structure Sat (B : World) (L : List HP) (w : World) : Prop where
  os : w.os = B.os
  tape : w.tape = B.tape
  output : w.output = B.output
  size : B.heap.size ≤ w.heap.size
  old : ∀ k, k < B.heap.size → w.heap[k]? = B.heap[k]?
  own : ∃ h : Hl, stars L h ∧ ∀ k o, h k = some o → w.heap[k]? = some o ∧ B.heap.size ≤ k

section
variable {B w w' : World} {L M : List HP} {A C : HP}

theorem Sat.start (B : World) : Sat B [] B := ⟨rfl, rfl, rfl, Nat.le_refl _, fun _ _ => rfl, fun _ => none, trivial, fun _ _ e => by cases e⟩
theorem Sat.below (h : Sat B L w) : Below B.heap.size B w := ⟨h.os, h.tape, h.output, h.size, h.old⟩
theorem Sat.conv (h : Sat B L w) (hL : ∀ x, stars L x → stars M x) : Sat B M w := by
  obtain ⟨x, h1, h2⟩ := h.own
  exact ⟨h.os, h.tape, h.output, h.size, h.old, x, hL x h1, h2⟩
theorem Sat.swap (h : Sat B (A :: C :: L) w) : Sat B (C :: A :: L) w := h.conv fun _ => stars_swap
theorem Sat.pull (h : Sat B L w) (i : Nat) (hi : L[i]? = some A) : Sat B (A :: L.eraseIdx i) w := h.conv (stars_pull i L A hi)
theorem Sat.push (i : Nat) (hi : L[i]? = some A) (h : Sat B (A :: L.eraseIdx i) w) : Sat B L w := h.conv (stars_push i L A hi)
theorem Sat.drop (h : Sat B (A :: L) w) : Sat B L w := h.conv fun _ => stars_drop
theorem Sat.flat (h : Sat B (stars L :: M) w) : Sat B (L ++ M) w := h.conv (stars_flat L M)
theorem Sat.head (h : Sat B (A :: L) w) (hA : ∀ x, A x → C x) : Sat B (C :: L) w := h.conv fun _ => stars_head hA
theorem Sat.fact_in {p : Prop} (hp : p) (h : Sat B L w) : Sat B (fact p :: L) w :=
  h.conv fun x hx => ⟨fun _ => none, x, fun _ => .inl rfl, (fun _ _ e => by cases e), fun _ _ e => e, hp, hx⟩
/-- What an assertion says of the world. -/
theorem Sat.says (h : Sat B (A :: L) w) : ∃ a : Hl, A a ∧ ∀ k o, a k = some o → w.heap[k]? = some o ∧ B.heap.size ≤ k := by
  obtain ⟨y, ⟨a, b, hd, ha, hb, hA, hL⟩, h2⟩ := h.own
  exact ⟨a, hA, fun k o e => h2 k o (ha k o e)⟩
/-- The one law on a step of the world: what was A's has become C's, of old blocks of A's and new ones; nothing else has turned. -/
theorem Sat.turn (h : Sat B (A :: L) w) (ho : w'.os = w.os) (ht : w'.tape = w.tape) (hp : w'.output = w.output) (hz : w.heap.size ≤ w'.heap.size)
    (hu : ∀ a : Hl, A a → (∀ k o, a k = some o → w.heap[k]? = some o ∧ B.heap.size ≤ k) →
      ∃ c : Hl, C c ∧ (∀ k o, c k = some o → w'.heap[k]? = some o ∧ (a k ≠ none ∨ w.heap.size ≤ k)) ∧ ∀ k, k < w.heap.size → a k = none → w'.heap[k]? = w.heap[k]?) : Sat B (C :: L) w' := by
  obtain ⟨y, ⟨a, b, hd, ha, hb, hA, hL⟩, h2⟩ := h.own
  obtain ⟨c, hC, hc, hrest⟩ := hu a hA fun k o e => h2 k o (ha k o e)
  have hbw : ∀ k o, b k = some o → w'.heap[k]? = some o ∧ B.heap.size ≤ k := fun k o e => by
    have h3 := h2 k o (hb k o e)
    refine ⟨?_, h3.2⟩
    rw [hrest k (Array.getElem?_eq_some_iff.1 h3.1).1 ((hd k).resolve_right (by simp [e]))]
    exact h3.1
  have hlow : ∀ k, a k ≠ none ∨ w.heap.size ≤ k → B.heap.size ≤ k := fun k e => by
    rcases e with e | e
    · cases hk : a k with
      | none => exact absurd hk e
      | some o => exact (h2 k o (ha k o hk)).2
    · exact Nat.le_trans h.size e
  have hcb : ∀ k o, b k = some o → c k = none := fun k o e => by
    cases hck : c k with
    | none => rfl
    | some o' =>
      rcases (hc k o' hck).2 with h3 | h3
      · exact absurd ((hd k).resolve_right (by simp [e])) h3
      · have := (Array.getElem?_eq_some_iff.1 (h2 k o (hb k o e)).1).1; omega
  refine ⟨ho.trans h.os, ht.trans h.tape, hp.trans h.output, Nat.le_trans h.size hz, fun k hk => ?_, hjoin c b, ⟨c, b, ?_, fun k o e => hjoin_l e, fun k o e => hjoin_r (hcb k o e) e, hC, hL⟩, ?_⟩
  · rw [hrest k (Nat.lt_of_lt_of_le hk h.size) ?_]
    · exact h.old k hk
    · cases hak : a k with
      | none => rfl
      | some o => have := (h2 k o (ha k o hak)).2; omega
  · intro k
    cases hbk : b k with
    | none => exact .inr rfl
    | some o => exact .inl (hcb k o hbk)
  · intro k o e
    rcases hjoin_of e with e | ⟨_, e⟩
    · exact ⟨(hc k o e).1, hlow k (hc k o e).2⟩
    · exact hbw k o e

theorem Sat.drew (h : Sat B L w) : Sat B L w.drew := ⟨h.os, h.tape, h.output, h.size, h.old, h.own⟩
theorem Sat.drewN (h : Sat B L w) (n : Nat) : Sat B L (w.drewN n) := ⟨h.os, h.tape, h.output, h.size, h.old, h.own⟩
/-- A world whose heap is the same. -/
theorem Sat.same (h : Sat B L w) (ho : w'.os = w.os) (ht : w'.tape = w.tape) (hp : w'.output = w.output) (hh : w'.heap = w.heap) : Sat B L w' :=
  ⟨ho.trans h.os, ht.trans h.tape, hp.trans h.output, by rw [hh]; exact h.size, fun k hk => by rw [hh]; exact h.old k hk, by rw [hh]; exact h.own⟩

theorem Sat.pt_at {b : Nat} {o : Obj} (h : Sat B (pt b o :: L) w) : w.heap[b]? = some o := by
  obtain ⟨a, hA, h2⟩ := h.says
  exact (h2 b o hA).1
theorem Sat.pt_lt {b : Nat} {o : Obj} (h : Sat B (pt b o :: L) w) : b < w.heap.size := (Array.getElem?_eq_some_iff.1 h.pt_at).1
theorem Sat.pt_cell {b : Nat} {cs : Array Value} {t : TypeId} {fz : Nat × Nat} (h : Sat B (pt b (.cells cs t fz) :: L) w) (j : Nat) : w.cell? ⟨b, j, none⟩ = cs[j]? := cell_of_row w b j cs t fz h.pt_at
theorem Sat.pt_free {b : Nat} {cs : Array Value} {t : TypeId} (h : Sat B (pt b (.cells cs t) :: L) w) (j : Nat) : w.frozen? ⟨b, j, none⟩ = false := frozen_of_row w b j cs t h.pt_at

theorem Sat.alloc (h : Sat B L w) (o : Obj) : Sat B (pt w.heap.size o :: L) (w.alloc o) := by
  refine (Sat.fact_in (p := True) trivial h).turn rfl rfl rfl (by simp) fun a _ h2 => ⟨fun k => if k = w.heap.size then some o else none, by simp [pt], ?_, ?_⟩
  · intro k o' e
    simp only [] at e
    split at e
    · rename_i hk; subst hk; cases e; exact ⟨heap_alloc_new w o, .inr (Nat.le_refl _)⟩
    · cases e
  · intro k hk _; exact Below.heap_alloc w o k hk
theorem Sat.alloc' (h : Sat B L w) (o : Obj) {n : Nat} (hn : n = w.heap.size) : Sat B (pt n o :: L) (w.alloc o) := hn ▸ h.alloc o
theorem Sat.set {b j : Nat} {cs : Array Value} {t : TypeId} (h : Sat B (pt b (.cells cs t) :: L) w) (v : Value) : Sat B (pt b (.cells (cs.setIfInBounds j v) t) :: L) (w.setCell ⟨b, j, none⟩ v) := by
  have hlt := h.pt_lt
  refine h.turn rfl rfl rfl (by simp) fun a ha h2 => ⟨fun k => if k = b then some (.cells (cs.setIfInBounds j v) t) else none, by simp [pt], ?_, ?_⟩
  · intro k o e
    simp only [] at e
    split at e
    · rename_i hk; subst hk; cases e
      refine ⟨heap_setCell_same w k j cs t v h.pt_at, .inl ?_⟩
      rw [show a k = _ from ha]; simp
    · cases e
  · intro k hk hak
    refine heap_setCell_other w ⟨b, j, none⟩ k v ?_
    intro hkb
    rw [show k = b from hkb, show a b = _ from ha] at hak; cases hak
/-- A block that lies below. -/
theorem Sat.old_cell {B w : World} {L : List HP} (h : Sat B L w) {a : Addr} (ha : a.block < B.heap.size) : w.cell? a = B.cell? a := World.cell?_of_block (h.old a.block ha)
end

/-! ### The third .. seventh to the front, and back -/
theorem Sat.p2 {B w : World} {L : List HP} {A0 A1 X : HP} (h : Sat B (A0 :: A1 :: X :: L) w) : Sat B (X :: A0 :: A1 :: L) w := h.pull (i := 2) rfl
theorem Sat.q2 {B w : World} {L : List HP} {A0 A1 X : HP} (h : Sat B (X :: A0 :: A1 :: L) w) : Sat B (A0 :: A1 :: X :: L) w := Sat.push 2 (L := A0 :: A1 :: X :: L) rfl h
theorem Sat.p3 {B w : World} {L : List HP} {A0 A1 A2 X : HP} (h : Sat B (A0 :: A1 :: A2 :: X :: L) w) : Sat B (X :: A0 :: A1 :: A2 :: L) w := h.pull (i := 3) rfl
theorem Sat.q3 {B w : World} {L : List HP} {A0 A1 A2 X : HP} (h : Sat B (X :: A0 :: A1 :: A2 :: L) w) : Sat B (A0 :: A1 :: A2 :: X :: L) w := Sat.push 3 (L := A0 :: A1 :: A2 :: X :: L) rfl h
theorem Sat.p4 {B w : World} {L : List HP} {A0 A1 A2 A3 X : HP} (h : Sat B (A0 :: A1 :: A2 :: A3 :: X :: L) w) : Sat B (X :: A0 :: A1 :: A2 :: A3 :: L) w := h.pull (i := 4) rfl
theorem Sat.q4 {B w : World} {L : List HP} {A0 A1 A2 A3 X : HP} (h : Sat B (X :: A0 :: A1 :: A2 :: A3 :: L) w) : Sat B (A0 :: A1 :: A2 :: A3 :: X :: L) w := Sat.push 4 (L := A0 :: A1 :: A2 :: A3 :: X :: L) rfl h
theorem Sat.p5 {B w : World} {L : List HP} {A0 A1 A2 A3 A4 X : HP} (h : Sat B (A0 :: A1 :: A2 :: A3 :: A4 :: X :: L) w) : Sat B (X :: A0 :: A1 :: A2 :: A3 :: A4 :: L) w := h.pull (i := 5) rfl
theorem Sat.q5 {B w : World} {L : List HP} {A0 A1 A2 A3 A4 X : HP} (h : Sat B (X :: A0 :: A1 :: A2 :: A3 :: A4 :: L) w) : Sat B (A0 :: A1 :: A2 :: A3 :: A4 :: X :: L) w := Sat.push 5 (L := A0 :: A1 :: A2 :: A3 :: A4 :: X :: L) rfl h
theorem Sat.p6 {B w : World} {L : List HP} {A0 A1 A2 A3 A4 A5 X : HP} (h : Sat B (A0 :: A1 :: A2 :: A3 :: A4 :: A5 :: X :: L) w) : Sat B (X :: A0 :: A1 :: A2 :: A3 :: A4 :: A5 :: L) w := h.pull (i := 6) rfl
theorem Sat.q6 {B w : World} {L : List HP} {A0 A1 A2 A3 A4 A5 X : HP} (h : Sat B (X :: A0 :: A1 :: A2 :: A3 :: A4 :: A5 :: L) w) : Sat B (A0 :: A1 :: A2 :: A3 :: A4 :: A5 :: X :: L) w := Sat.push 6 (L := A0 :: A1 :: A2 :: A3 :: A4 :: A5 :: X :: L) rfl h

/-! ### Rows: a slice that owns its cells -/
def row (e : TypeId) (size : Nat) (v : Value) (n : Nat) (xs : List Value) : HP := fun h =>
  xs.length = n * size ∧ (∀ u ∈ xs, u.oneCell' = true) ∧
  ((v = .slice none 0 0 ∧ n = 0) ∨
    ∃ g off cap cur, v = .slice (some ⟨g, off, none⟩) n cap ∧ h g = some (.cells cur e (0, 0)) ∧ n ≤ cap ∧ cap ≤ maxLen ∧ off + cap * size ≤ cur.size ∧ (cur.toList.drop off).take (n * size) = xs)

/-- Where the cells of a slice's elements lie. -/
def reads (w : World) (v : Value) (n : Nat) (xs : List Value) : Prop :=
  ∃ a c, v = .slice a n c ∧ (a = none → n = 0 ∧ c = 0) ∧ n ≤ c ∧ c ≤ maxLen ∧ ∀ j u, xs[j]? = some u → ∃ b off, a = some ⟨b, off, none⟩ ∧ w.cell? ⟨b, off + j, none⟩ = some u

section
variable {B w w' : World} {L M : List HP} {e : TypeId} {size n : Nat} {v : Value} {xs : List Value}

theorem Sat.row_len (h : Sat B (row e size v n xs :: L) w) : xs.length = n * size := by
  obtain ⟨a, hA, _⟩ := h.says
  exact hA.1
theorem Sat.row_one (h : Sat B (row e size v n xs :: L) w) : ∀ u ∈ xs, u.oneCell' = true := by
  obtain ⟨a, hA, _⟩ := h.says
  exact hA.2.1
theorem Sat.row_reads (h : Sat B (row e size v n xs :: L) w) : reads w v n xs := by
  obtain ⟨a, ⟨hl, h1, hA⟩, h2⟩ := h.says
  rcases hA with ⟨rfl, rfl⟩ | ⟨g, off, cap, cur, rfl, hg, hn, hm, hs, ht⟩
  · exact ⟨none, 0, rfl, fun _ => ⟨rfl, rfl⟩, Nat.le_refl _, Nat.zero_le _, fun j u e => by
      have : xs = [] := List.eq_nil_of_length_eq_zero (by simpa using hl)
      subst this; simp at e⟩
  · refine ⟨_, _, rfl, (fun e => by cases e), hn, hm, fun j u e => ⟨g, off, rfl, ?_⟩⟩
    rw [cell_of_row w g _ cur _ (0, 0) (h2 g _ hg).1]
    rw [← ht, List.getElem?_take] at e
    split at e
    · rw [List.getElem?_drop] at e
      simpa using e
    · cases e
/-- Its form: nil, or somewhere. -/
theorem Sat.row_form (h : Sat B (row e size v n xs :: L) w) : (v = .slice none 0 0 ∧ n = 0 ∧ xs = []) ∨
    ∃ g off cap, v = .slice (some ⟨g, off, none⟩) n cap ∧ n ≤ cap ∧ cap ≤ maxLen ∧ B.heap.size ≤ g ∧ g < w.heap.size ∧ (∀ j u, xs[j]? = some u → w.cell? ⟨g, off + j, none⟩ = some u) ∧
      (∀ j, w.frozen? ⟨g, j, none⟩ = false) ∧ ∀ j, j < cap * size → (w.cell? ⟨g, off + j, none⟩).isSome = true := by
  have hr := h.row_reads
  obtain ⟨a, ⟨hl, h1, hA⟩, h2⟩ := h.says
  rcases hA with ⟨rfl, rfl⟩ | ⟨g, off, cap, cur, rfl, hg, hn, hm, hs, ht⟩
  · exact .inl ⟨rfl, rfl, List.eq_nil_of_length_eq_zero (by simpa using hl)⟩
  · refine .inr ⟨g, off, cap, rfl, hn, hm, (h2 g _ hg).2, (Array.getElem?_eq_some_iff.1 (h2 g _ hg).1).1, fun j u e => ?_, fun j => frozen_of_row w g j cur _ (h2 g _ hg).1, fun j hj => ?_⟩
    · obtain ⟨a', c, hv, _, _, _, hc⟩ := hr
      cases hv
      obtain ⟨b, o, hb, hcc⟩ := hc j u e
      cases hb; exact hcc
    · rw [cell_of_row w g _ cur _ (0, 0) (h2 g _ hg).1]
      have hlt : off + j < cur.size := by omega
      simp [hlt]
/-- A block that is known whole is a row. -/
theorem Sat.pt_row {b : Nat} {cs : Array Value} (h : Sat B (pt b (.cells cs e) :: L) w) (n cap off : Nat) (xs : List Value) (hl : xs.length = n * size) (h1 : ∀ u ∈ xs, u.oneCell' = true)
    (hn : n ≤ cap) (hc : cap ≤ maxLen) (hs : off + cap * size ≤ cs.size) (hx : (cs.toList.drop off).take (n * size) = xs) : Sat B (row e size (.slice (some ⟨b, off, none⟩) n cap) n xs :: L) w :=
  h.head fun _ hy => ⟨hl, h1, .inr ⟨b, off, cap, cs, rfl, hy, hn, hc, hs, hx⟩⟩
/-- A slice of a row is a row: what lies behind is forgotten. -/
theorem Sat.row_cut {g off cap : Nat} (h : Sat B (row e size (.slice (some ⟨g, off, none⟩) n cap) n xs :: L) w) (l m c : Nat) (hlm : l + m ≤ n) (hmc : m ≤ c) (hc : l + c ≤ cap) :
    Sat B (row e size (.slice (some ⟨g, off + l * size, none⟩) m c) m ((xs.drop (l * size)).take (m * size)) :: L) w := by
  refine h.head fun y hy => ?_
  obtain ⟨hl, h1, hA⟩ := hy
  rcases hA with ⟨hv, _⟩ | ⟨g', off', cap', cur, hv, hg, hn, hm, hs, ht⟩
  · cases hv
  · cases hv
    have e1 : l * size + m * size ≤ n * size := by rw [← Nat.add_mul]; exact Nat.mul_le_mul_right _ hlm
    have e2 : l * size + c * size ≤ cap * size := by rw [← Nat.add_mul]; exact Nat.mul_le_mul_right _ hc
    refine ⟨?_, fun u hu => h1 u (List.mem_of_mem_drop (List.mem_of_mem_take hu)), .inr ⟨g, off + l * size, c, cur, rfl, hg, hmc, by omega, by omega, ?_⟩⟩
    · rw [List.length_take, List.length_drop, hl]; omega
    · rw [← ht, List.drop_take, List.drop_drop, List.take_take]
      congr 1; omega
end
theorem reads_mono {w w' : World} {v : Value} {n : Nat} {xs : List Value} (h : reads w v n xs) (hc : ∀ a u, w.cell? a = some u → w'.cell? a = some u) : reads w' v n xs := by
  obtain ⟨a, c, h0, h1, h2, h3, h4⟩ := h
  exact ⟨a, c, h0, h1, h2, h3, fun j u hu => by obtain ⟨b, o, hb, hcc⟩ := h4 j u hu; exact ⟨b, o, hb, hc _ _ hcc⟩⟩
theorem Sat.reads {B w : World} {L : List HP} (h : Sat B L w) {v : Value} {n : Nat} {xs : List Value} (hr : reads B v n xs) : reads w v n xs :=
  reads_mono hr fun _ _ e => by rw [h.old_cell (block_lt_of_cell e)]; exact e
#print axioms Sat.turn
#print axioms Sat.row_cut
end Go.Proofs.YtajoljoegbeiiaaGreatDoor

namespace Go.Proofs.YtajoljoegbeiiaaGreatDoor
open Go.RowKit

/-- What the table says of a slice type and its element type. -/
structure Elem (P : Program) (t e : TypeId) (z : Value) (size bytes : Nat) : Prop where
  ht : P.underlying t = some (.slice e)
  info : (P.info? e).map (fun i => (i.zero, i.size, i.bytes)) = some (some z, size, bytes)
  sz : z.cells.size = size
  pos : 0 < size
  one : ∀ u ∈ z.cells.toList, u.oneCell' = true

section
variable {P : Program} {t e : TypeId} {z : Value} {size bytes : Nat} {B w : World} {L : List HP} {n m : Nat} {v x : Value} {xs news : List Value}

theorem addr_add (g off j : Nat) : (⟨g, off, none⟩ : Addr).add j = ⟨g, off + j, none⟩ := by unfold Addr.add; split <;> simp_all

theorem reads_cells {w : World} {a : Option Addr} {c : Nat} (h : reads w (.slice a n c) n xs) : ∀ b, a = some b → ∀ j u, xs[j]? = some u → w.cell? (b.add j) = some u := by
  intro b hb j u hu
  obtain ⟨a', c', hv, _, _, _, hc⟩ := h
  cases hv
  obtain ⟨g, off, h1, h2⟩ := hc j u hu
  rw [h1] at hb; cases hb
  rw [addr_add]; exact h2

theorem drop_take_upd (cur xs news : List Value) (off k : Nat) (hx : (cur.drop off).take k = xs) (hk : xs.length = k) (hl : off + k + news.length ≤ cur.length) :
    ((cur.take (off + k) ++ news ++ cur.drop (off + k + news.length)).drop off).take (k + news.length) = xs ++ news := by
  have h1 : cur.take (off + k) = cur.take off ++ xs := by rw [List.take_add, hx]
  rw [h1]
  have hlen : (cur.take off).length = off := by rw [List.length_take]; omega
  rw [List.append_assoc, List.append_assoc, List.drop_append_of_le_length (by omega), List.drop_of_length_le (by omega), List.nil_append, ← List.append_assoc]
  rw [List.take_append_of_le_length (by simp; omega), List.take_of_length_le (by simp; omega)]

theorem run_append_row (E : Elem P t e z size bytes) (ty : TypeId) (hS : Sat B (row e size v n xs :: L) w) (hx : reads w x m news) (hl : news.length = m * size) (h1 : ∀ u ∈ news, u.oneCell' = true)
    (b1 : n + m ≤ maxLen) (b2 : (n + m) * bytes ≤ 140737488355328) :
    ∃ a c w', (Builtin.append_ #[t, t] ty #[v, x]).run P w = .ok (.slice a (n + m) c) w' ∧ Sat B (row e size (.slice a (n + m) c) (n + m) (xs ++ news) :: L) w' := by
  obtain ⟨i, hi, hz0, hz1, hz2⟩ := info_parts E.info
  have ht := E.ht
  have hsz := E.sz
  have hpos := E.pos
  subst hz1; subst hz2
  have hone := hS.row_one
  have hlx := hS.row_len
  obtain ⟨xa, xc, rfl, hxn, hxle, hxm, hxc⟩ := hx
  by_cases hm : m = 0
  · subst hm
    obtain rfl : news = [] := List.eq_nil_of_length_eq_zero (by simpa using hl)
    simp only [List.append_nil, Nat.add_zero]
    rcases hS.row_form with ⟨rfl, rfl, rfl⟩ | ⟨g, off, cap, rfl, hn, _⟩
    · exact ⟨none, 0, w, by cases xa <;> simp [Builtin.append_, run_underlying ht, sizeOf, typeInfo, hi, Builtin.lenOf, Builtin.firstCells, loadCells, loadCellsFrom], hS⟩
    · exact ⟨some ⟨g, off, none⟩, cap, w, by cases xa <;> simp [Builtin.append_, run_underlying ht, sizeOf, typeInfo, hi, Builtin.lenOf, Builtin.firstCells, hn, storeCells, loadCells, loadCellsFrom], hS⟩
  · obtain ⟨ad, rfl⟩ : ∃ ad, xa = some ad := by
      cases xa with
      | some ad => exact ⟨ad, rfl⟩
      | none => exact absurd (hxn rfl).1 hm
    have hnews := reads_cells (w := w) (a := some ad) (c := xc) (n := m) (xs := news) ⟨_, _, rfl, hxn, hxle, hxm, hxc⟩ ad rfl
    have hlen : (xs ++ news).length = (n + m) * i.size := by rw [List.length_append, hlx, hl, Nat.add_mul]
    have h1' : ∀ u ∈ xs ++ news, u.oneCell' = true := fun u hu => (List.mem_append.1 hu).elim (hone u) (h1 u)
    -- what has grown
    have grown : ∀ (old : Nat), old < n + m → ∀ w1 : World, w1 = w.drew.alloc (.cells (xs.toArray ++ news.toArray ++ Builtin.zeroCells z.cells (grownCap w (n + m) old e - (n + m))) e) →
        Sat B (row e i.size (.slice (some ⟨w.heap.size, 0, none⟩) (n + m) (grownCap w (n + m) old e)) (n + m) (xs ++ news) :: L) w1 := by
      intro old ho w1 hw1
      have hge := grownCap_ge w (n + m) old e
      have hcm : grownCap w (n + m) old e ≤ maxLen := grownCap_le_maxLen w (n + m) old e b1
      have h2 := hS.drop.drew.alloc (.cells (xs.toArray ++ news.toArray ++ Builtin.zeroCells z.cells (grownCap w (n + m) old e - (n + m))) e)
      rw [← hw1] at h2
      refine h2.pt_row _ _ _ _ hlen h1' hge hcm ?_ ?_
      · simp only [Array.size_append, List.size_toArray, size_zeroCells, hsz, hlx, hl, ← Nat.add_mul]
        rw [Nat.zero_add]
        exact Nat.le_of_eq (by congr 1; omega)
      · simp only [Array.toList_append, List.append_assoc, List.drop_zero]
        rw [← List.append_assoc, ← hlen]
        exact List.take_left
    rcases hS.row_form with ⟨rfl, rfl, rfl⟩ | ⟨g, off, cap, rfl, hn, hcm, hge, hlt, hcells, hfree, hthere⟩
    · have hr : (Builtin.append_ #[t, t] ty #[.slice none 0 0, .slice (some ad) m xc]).run P w =
          .ok (.slice (some ⟨w.heap.size, 0, none⟩) (0 + m) (grownCap w (0 + m) 0 e)) (w.drew.alloc (.cells (([] : List Value).toArray ++ news.toArray ++ Builtin.zeroCells z.cells (grownCap w (0 + m) 0 e - (0 + m))) e)) := by
        have h63 : ((0 + m : Nat) : Int) ≤ 9223372036854775807 := by simp only [maxLen] at b1; omega
        rw [Nat.zero_add] at h63 b2 ⊢
        rw [show ([] : List Value).toArray ++ news.toArray = news.toArray from by simp]
        exact run_append_nil w t ty e i z ht hi hz0 ad m xc news hl hnews (by omega) h63 (by omega)
      exact ⟨_, _, _, hr, grown 0 (by omega) _ rfl⟩
    · by_cases hroom : n + m ≤ cap
      · obtain ⟨y, ⟨_, _, hA⟩, hy⟩ := hS.says
        rcases hA with ⟨hv, _⟩ | ⟨g', off', cap', cur, hv, hg, _, _, hs, hcur⟩
        · cases hv
        cases hv
        have hgw := (hy g _ hg).1
        have hmul : n * i.size + m * i.size ≤ cap * i.size := by rw [← Nat.add_mul]; exact Nat.mul_le_mul_right _ hroom
        have hf := run_firstCells_some (P := P) w i.size m ad m xc news hl hnews
        have hst := run_storeCells_at P g (off + n * i.size) e news 0 cur w hgw (by omega) h1
        simp only [Nat.add_zero] at hst
        refine ⟨some ⟨g, off, none⟩, cap, w.setRow g (cur.toList.take (off + n * i.size) ++ news ++ cur.toList.drop (off + n * i.size + news.length)).toArray, ?_, ?_⟩
        rotate_left
        · refine hS.turn rfl rfl rfl (by simp) fun a ha h2 => ?_
          obtain ⟨_, _, hA⟩ := ha
          rcases hA with ⟨hv, _⟩ | ⟨g2, off2, cap2, cur2, hv, hg2, _⟩
          · cases hv
          cases hv
          have hcc : cur2 = cur := by have := (h2 g _ hg2).1; rw [hgw] at this; cases this; rfl
          subst hcc
          refine ⟨fun k => if k = g then some (.cells (cur2.toList.take (off + n * i.size) ++ news ++ cur2.toList.drop (off + n * i.size + news.length)).toArray e (0, 0)) else none,
            ⟨hlen, h1', .inr ⟨g, off, cap, _, rfl, if_pos rfl, hroom, hcm, ?_, ?_⟩⟩, ?_, ?_⟩
          · simp; omega
          · rw [Nat.add_mul, ← hl]
            exact drop_take_upd cur2.toList xs news off (n * i.size) hcur hlx (by have := Array.length_toList (xs := cur2); omega)
          · intro k o ek
            simp only [] at ek
            split at ek
            · rename_i hk; subst hk; cases ek
              exact ⟨setRow_heap w k cur2 _ e (0, 0) hgw, .inl (by rw [hg2]; simp)⟩
            · cases ek
          · intro k hk hak
            refine setRow_other w g k _ ?_
            intro hkg
            rw [hkg, hg2] at hak; cases hak
        · simp [Builtin.append_, run_underlying ht, sizeOf, typeInfo, hi, Builtin.lenOf, hroom, hf, addr_add, hst]
      · have hr := run_append_grow (P := P) w t ty e i z ht hi hz0 ⟨g, off, none⟩ n cap xs hlx (fun j u hu => by rw [addr_add]; exact hcells j u hu) ad m xc news hl hnews (by omega) (by simp only [maxLen] at b1; omega) (growslice_fits (by omega) b2)
        exact ⟨_, _, _, hr, grown cap (by omega) _ rfl⟩

/-- 'append' at the operation. -/
theorem wp_append_row {o : Oper} {a : Act} {K : Act → World → Prop} {Q : Exit → Act → World → Prop} (E : Elem P t e z size bytes) (s x : Operand)
    (ho : o.op = .call { callee := .builtin .append, args := #[s, x], argTypes := #[t, t] })
    (v vx : Value) (n m : Nat) (xs news : List Value) (hs : a.eval s = v) (hxv : a.eval x = vx) (hS : Sat B (row e size v n xs :: L) w) (hx : reads w vx m news) (hl : news.length = m * size) (h1 : ∀ u ∈ news, u.oneCell' = true)
    (b1 : n + m ≤ maxLen) (b2 : (n + m) * bytes ≤ 140737488355328)
    (h : ∀ a' c w', Sat B (row e size (.slice a' (n + m) c) (n + m) (xs ++ news) :: L) w' → K (a.put o.dst (.slice a' (n + m) c)) w') : o.wp P a w K Q := by
  obtain ⟨a', c, w', hr, hS'⟩ := run_append_row E o.type hS hx hl h1 b1 b2
  unfold Oper.wp execOp
  simp only [ho, resolve, invoke, builtin, Sem.run_bind, Sem.run_pure, Result.andThen_ok, List.map_toArray, List.map_cons, List.map_nil, hs, hxv, hr]
  exact h a' c w' hS'
/-- 'copy' into a row: its first elements have become the source's. -/
theorem run_copy_rows (E : Elem P t e z size bytes) (ty sT : TypeId) (hS : Sat B (row e size v n xs :: L) w) (hx : reads w x m news) (hl : news.length = m * size) (h1 : ∀ u ∈ news, u.oneCell' = true) (hmn : m ≤ n) :
    ∃ w', (Builtin.copy_ #[t, sT] ty #[v, x]).run P w = .ok (goInt m) w' ∧ Sat B (row e size v n (news ++ xs.drop (m * size)) :: L) w' := by
  obtain ⟨i, hi, hz0, hz1, hz2⟩ := info_parts E.info
  have ht := E.ht
  subst hz1; subst hz2
  have hone := hS.row_one
  have hlx := hS.row_len
  have hnm : Nat.min m n = m := Nat.min_eq_left hmn
  obtain ⟨xa, xc, rfl, hxn, hxle, hxm, hxc⟩ := hx
  by_cases hm : m = 0
  · subst hm
    obtain rfl : news = [] := List.eq_nil_of_length_eq_zero (by simpa using hl)
    refine ⟨w, ?_, by simpa using hS⟩
    rcases hS.row_form with ⟨rfl, rfl, rfl⟩ | ⟨g, off, cap, rfl, hn, _⟩ <;> cases xa <;>
      simp [Builtin.copy_, run_underlying ht, sizeOf, typeInfo, hi, Builtin.lenOf, Builtin.firstCells, hnm, storeCells, loadCells, loadCellsFrom]
  · obtain ⟨ad, rfl⟩ : ∃ ad, xa = some ad := by
      cases xa with
      | some ad => exact ⟨ad, rfl⟩
      | none => exact absurd (hxn rfl).1 hm
    have hnews := reads_cells (w := w) (a := some ad) (c := xc) (n := m) (xs := news) ⟨_, _, rfl, hxn, hxle, hxm, hxc⟩ ad rfl
    have hmul : m * i.size ≤ n * i.size := Nat.mul_le_mul_right _ hmn
    obtain ⟨y, ⟨_, _, hA⟩, hy⟩ := hS.says
    rcases hA with ⟨hv, h0⟩ | ⟨g, off, cap, cur, hv, hg, hn, hcm, hs, hcur⟩
    · omega
    subst hv
    have hgw := (hy g _ hg).1
    have hcap : n * i.size ≤ cap * i.size := Nat.mul_le_mul_right _ hn
    have hf := run_firstCells_some (P := P) w i.size m ad m xc news hl hnews
    have hst := run_storeCells_at P g off e news 0 cur w hgw (by omega) h1
    simp only [Nat.add_zero] at hst
    refine ⟨w.setRow g (cur.toList.take off ++ news ++ cur.toList.drop (off + news.length)).toArray, ?_, ?_⟩
    · simp [Builtin.copy_, run_underlying ht, sizeOf, typeInfo, hi, Builtin.lenOf, hnm, Builtin.firstCells]
      simp only [Builtin.firstCells] at hf
      simp [hf, hst]
    · refine hS.turn rfl rfl rfl (by simp) fun a ha h2 => ?_
      obtain ⟨_, _, hA⟩ := ha
      rcases hA with ⟨hv, _⟩ | ⟨g2, off2, cap2, cur2, hv, hg2, _⟩
      · cases hv
      cases hv
      have hcc : cur2 = cur := by have := (h2 g _ hg2).1; rw [hgw] at this; cases this; rfl
      subst hcc
      refine ⟨fun k => if k = g then some (.cells (cur2.toList.take off ++ news ++ cur2.toList.drop (off + news.length)).toArray e (0, 0)) else none,
        ⟨?_, ?_, .inr ⟨g, off, cap, _, rfl, if_pos rfl, hn, hcm, ?_, ?_⟩⟩, ?_, ?_⟩
      · simp [hl, hlx]; omega
      · intro u hu
        rcases List.mem_append.1 hu with hu | hu
        · exact h1 u hu
        · exact hone u (List.mem_of_mem_drop hu)
      · simp; omega
      · have hlen : (cur2.toList.take off).length = off := by rw [List.length_take, Array.length_toList]; omega
        have hsz2 : off + cap * i.size ≤ cur2.toList.length := by rw [Array.length_toList]; exact hs
        rw [← hcur, List.append_assoc, List.drop_append_of_le_length (by omega), List.drop_of_length_le (by omega), List.nil_append]
        rw [List.take_append, List.take_of_length_le (by omega), List.drop_take, List.drop_drop, hl]
      · intro k o ek
        simp only [] at ek
        split at ek
        · rename_i hk; subst hk; cases ek
          exact ⟨setRow_heap w k cur2 _ e (0, 0) hgw, .inl (by rw [hg2]; simp)⟩
        · cases ek
      · intro k hk hak
        refine setRow_other w g k _ ?_
        intro hkg
        rw [hkg, hg2] at hak; cases hak
theorem wp_copy_row {o : Oper} {a : Act} {K : Act → World → Prop} {Q : Exit → Act → World → Prop} (E : Elem P t e z size bytes) (s x : Operand) (sT : TypeId)
    (ho : o.op = .call { callee := .builtin .copy, args := #[s, x], argTypes := #[t, sT] })
    (v vx : Value) (n m : Nat) (xs news : List Value) (hs : a.eval s = v) (hxv : a.eval x = vx) (hS : Sat B (row e size v n xs :: L) w) (hx : reads w vx m news) (hl : news.length = m * size) (h1 : ∀ u ∈ news, u.oneCell' = true) (hmn : m ≤ n)
    (h : ∀ w', Sat B (row e size v n (news ++ xs.drop (m * size)) :: L) w' → K (a.put o.dst (goInt m)) w') : o.wp P a w K Q := by
  obtain ⟨w', hr, hS'⟩ := run_copy_rows E o.type sT hS hx hl h1 hmn
  unfold Oper.wp execOp
  simp only [ho, resolve, invoke, builtin, Sem.run_bind, Sem.run_pure, Result.andThen_ok, List.map_toArray, List.map_cons, List.map_nil, hs, hxv, hr]
  exact h w' hS'
/-- 'make' of a slice. -/
theorem run_make_row (E : Elem P t e z size bytes) (hS : Sat B L w) (k c : Nat) (hk : k ≤ c) (hb : bytes * c ≤ 281474976710656) (h63 : c ≤ maxLen) :
    (Instr.makeSlice t (.int .i64 (k : Int)) (.int .i64 (c : Int))).run P w = .ok (.slice (some ⟨w.heap.size, 0, none⟩) k c) (w.alloc (.cells (madeCells z.cells (c * size)) e)) ∧
    Sat B (row e size (.slice (some ⟨w.heap.size, 0, none⟩) k c) k (List.replicate k z.cells.toList).flatten :: L) (w.alloc (.cells (madeCells z.cells (c * size)) e)) := by
  obtain ⟨i, hi, hz0, hz1, hz2⟩ := info_parts E.info
  have hsz := E.sz
  have hpos := E.pos
  subst hz1; subst hz2
  have hmk : ∀ j, (madeCells z.cells (j * i.size)).toList = (List.replicate j z.cells.toList).flatten := by
    intro j
    induction j with
    | zero => simp [madeCells]
    | succ j ih =>
      rw [List.replicate_succ', List.flatten_append, ← ih]
      simp only [List.flatten_cons, List.flatten_nil, List.append_nil]
      refine List.ext_getElem (by simp [madeCells, hsz, Nat.add_mul]) fun q h1 h2 => ?_
      simp only [madeCells, Array.toList_map, Array.toList_range, List.getElem_map, List.getElem_range]
      by_cases hq : q < j * i.size
      · rw [List.getElem_append_left (by simpa using hq)]
        simp
      · rw [List.getElem_append_right (by simpa using hq)]
        simp only [List.length_map, List.length_range, Array.getElem_toList]
        simp only [madeCells, Array.toList_map, Array.toList_range, List.length_map, List.length_range, Nat.add_mul, Nat.one_mul] at h1
        have : q % z.cells.size = q - j * i.size := by
          rw [hsz]
          have : q = (q - j * i.size) + j * i.size := by omega
          rw [this, Nat.add_mul_mod_self_right, Nat.mod_eq_of_lt (by omega)]; omega
        rw [this]
        rw [getElem!_pos z.cells _ (by omega)]
  refine ⟨?_, ?_⟩
  · have := run_make (P := P) w t e i z E.ht hi hz0 .i64 .i64 (k : Int) (c : Int) (by omega) (by omega) (by rw [← Int.natCast_mul]; omega) (by simp only [maxLen] at h63; omega)
    simpa using this
  · refine (hS.alloc _).pt_row _ _ _ _ ?_ ?_ hk h63 (by simp [size_madeCells]) ?_
    · rw [← hmk]; simp [size_madeCells]
    · intro u hu
      obtain ⟨l, hl, hu⟩ := List.mem_flatten.1 hu
      exact E.one u (by rw [(List.mem_replicate.1 hl).2] at hu; exact hu)
    · rw [hmk, List.drop_zero]
      have : c = k + (c - k) := by omega
      rw [this, ← List.replicate_append_replicate, List.flatten_append]
      refine List.take_left' ?_
      simp [hsz]
theorem wp_make_row {o : Oper} {a : Act} {K : Act → World → Prop} {Q : Exit → Act → World → Prop} (E : Elem P t e z size bytes) (x y : Operand)
    (ho : o.op = .makeSlice t x y) (k c : Nat) (hxv : a.eval x = .int .i64 (k : Int)) (hyv : a.eval y = .int .i64 (c : Int)) (hS : Sat B L w) (hk : k ≤ c) (hb : bytes * c ≤ 281474976710656) (h63 : c ≤ maxLen)
    (h : ∀ a' w', Sat B (row e size (.slice a' k c) k (List.replicate k z.cells.toList).flatten :: L) w' → K (a.put o.dst (.slice a' k c)) w') : o.wp P a w K Q := by
  obtain ⟨hr, hS'⟩ := run_make_row E hS k c hk hb h63
  unfold Oper.wp execOp
  simp only [ho, Sem.run_bind, Sem.run_pure, Result.andThen_ok, hxv, hyv, hr]
  exact h _ _ hS'
end
#print axioms wp_append_row
#print axioms wp_copy_row
#print axioms wp_make_row
end Go.Proofs.YtajoljoegbeiiaaGreatDoor

namespace Go.Proofs.YtajoljoegbeiiaaGreatDoor
open Go.RowKit
section
variable {P : Program} {B w : World} {L : List HP}

/-- A variable laid. -/
theorem wp_alloc_any {o : Oper} {a : Act} {K : Act → World → Prop} {Q : Exit → Act → World → Prop} (T : TypeId) (z : Value) (ho : o.op = .alloc T) (hz : (P.info? T).map (·.zero) = some (some z)) (hS : Sat B L w)
    (h : ∀ b w', b = w.heap.size → w' = w.alloc (.cells z.cells T) → Sat B (pt b (.cells z.cells T) :: L) w' → K (a.put o.dst (.pointer (some ⟨b, 0, none⟩))) w') : o.wp P a w K Q := by
  obtain ⟨i, hi, hiz⟩ := Option.map_eq_some_iff.1 hz
  have hr : (Instr.alloc T true (.tuple #[])).run P w = .ok (.pointer (some ⟨w.heap.size, 0, none⟩)) (w.alloc (.cells z.cells T)) := by
    simp [Instr.alloc, zeroValue, typeInfo, hi, hiz, newVar, newRow]
  unfold Oper.wp execOp
  simp only [ho, Sem.run_bind, Sem.run_pure, Result.andThen_ok, hr]
  exact h _ _ rfl rfl (hS.alloc _)
/-- Integers as cells. -/
def ints (k : IntKind) (xs : List Int) : Array Value := (xs.map (Value.int k)).toArray

theorem run_eqItems_same (d : Nat) {e : TypeId} {k k' : IntKind} (he : P.underlying e = some (.int k')) (hc : P.cellsOf e = 1) (xs : List Int) :
    ∀ is : List Nat, (∀ i ∈ is, i < xs.length) → (Op.eqItems (d + 1) e (P.cellsOf e) (ints k xs) (ints k xs) is).run P w = .ok true w := by
  intro is
  induction is with
  | nil => intro _; simp [Op.eqItems]
  | cons j is ih =>
    intro h
    have hj : j < xs.length := h j (by simp)
    have ih' := ih fun i hi => h i (by simp [hi])
    have hp : (part e (ints k xs) (j * P.cellsOf e)).run P w = .ok (.int k xs[j]) w := by
      have hag : (isAgg e).run P w = .ok false w := by simp [isAgg, run_underlying he]
      have hcs : (ints k xs)[j * P.cellsOf e]? = some (.int k xs[j]) := by simp [ints, hc, hj]
      simp [part, hag, hcs]
    simp [Op.eqItems, hp, run_equalIn_int w d e k k' _ _ he, ih']
/-- Two arrays of integers that hold the same. -/
theorem wp_eql_ints {o : Oper} {a : Act} {K : Act → World → Prop} {Q : Exit → Act → World → Prop} (x y : Operand) (T e : TypeId) (n : Nat) (k k' : IntKind) (i : TypeInfo) (ho : o.op = .binOp .eql T x y T) (hT : P.underlying T = some (.array n e)) (hi : P.info? e = some i)
    (he : P.underlying e = some (.int k')) (hc : P.cellsOf e = 1) (hg : P.eqGuardType P.depth T = false) (xs : List Int) (hn : xs.length = n) (hx : a.eval x = .agg (ints k xs)) (hy : a.eval y = .agg (ints k xs))
    (h : K (a.put o.dst (.bool true)) w) : o.wp P a w K Q := by
  have h1 : (eqGuard .eql T x y (.agg (ints k xs)) (.agg (ints k xs))).run P w = .ok () w := by simp [eqGuard, hg]
  have h2 : (binOp .eql T (.agg (ints k xs)) (.agg (ints k xs))).run P w = .ok (.bool true) w := by
    rw [run_eql_struct, run_equalIn_array w 9999 _ _ hT hi, run_eqItems_same 9998 he hc xs _ (fun i hi => by rw [hn]; exact List.mem_range.1 hi)]
    rfl
  unfold Oper.wp execOp
  simp only [ho, Sem.run_bind, Sem.run_pure, Result.andThen_ok, hx, hy, h1, h2]
  exact h
end
#print axioms wp_eql_ints
#print axioms wp_alloc_any
end Go.Proofs.YtajoljoegbeiiaaGreatDoor

namespace Go.Proofs.YtajoljoegbeiiaaGreatDoor
open Go.RowKit
section
variable {B w : World} {L : List HP} {e : TypeId} {size n : Nat} {xs : List Value}
end
end Go.Proofs.YtajoljoegbeiiaaGreatDoor

namespace Go.Proofs.YtajoljoegbeiiaaGreatDoor
set_option linter.all false
open Go.RowKit
section
variable {P : Program} {B w w' : World} {L : List HP} {t e : TypeId} {n : Nat} {v z : Value} {xs : List Value}
theorem run_clear_row (ty : TypeId) (ht : P.underlying t = some (.slice e)) (hz : ∀ w, (zeroValue e).run P w = .ok z w) (hc : z.cells = #[z]) (hz1 : z.oneCell' = true) {g off cap : Nat}
    (hS : Sat B (row e 1 (.slice (some ⟨g, off, none⟩) n cap) n xs :: L) w) (i m cc : Nat) (a : Option Addr) (hi : i + m = n) (ha : m = 0 ∨ a = some ⟨g, off + i, none⟩) :
    ∃ w', (Builtin.clear_ #[t] ty #[.slice a m cc]).run P w = .ok (.tuple #[]) w' ∧ Sat B (row e 1 (.slice (some ⟨g, off, none⟩) n cap) n (xs.take i ++ List.replicate m z) :: L) w' := by
  have hlx := hS.row_len
  have hone := hS.row_one
  by_cases hm0 : m = 0
  · subst hm0
    refine ⟨w, ?_, ?_⟩
    · cases a <;> simp [Builtin.clear_, run_underlying ht]
    · rw [List.take_of_length_le (by omega), List.replicate_zero, List.append_nil]; exact hS
  · obtain rfl := ha.resolve_left hm0
    obtain ⟨y, ⟨_, _, hA⟩, hy⟩ := hS.says
    rcases hA with ⟨hv, _⟩ | ⟨g', off', cap', cur, hv, hg, hn, hcm, hs, hcur⟩
    · cases hv
    cases hv
    have hgw := (hy g _ hg).1
    have hzs : ∀ u ∈ List.replicate m z, u.oneCell' = true := fun u hu => by rw [List.eq_of_mem_replicate hu]; exact hz1
    have hst := run_storeCells_at P g (off + i) e (List.replicate m z) 0 cur w hgw (by simp; omega) hzs
    simp only [Nat.add_zero] at hst
    have hzc : (Builtin.zeroCells z.cells m).toList = List.replicate m z := by
      rw [hc]
      simp [Builtin.zeroCells]
      apply List.ext_getElem
      · simp
      · intro i h1 h2
        simp [Nat.mod_one]
    refine ⟨w.setRow g (cur.toList.take (off + i) ++ List.replicate m z ++ cur.toList.drop (off + i + (List.replicate m z).length)).toArray, ?_, ?_⟩
    · obtain ⟨q, rfl⟩ : ∃ q, m = q + 1 := ⟨m - 1, by omega⟩
      simp [Builtin.clear_, run_underlying ht, hz, hzc]
      simp at hst
      simp [hst]
    · refine hS.turn rfl rfl rfl (by simp) fun a ha h2 => ?_
      obtain ⟨_, _, hA⟩ := ha
      rcases hA with ⟨hv, _⟩ | ⟨g2, off2, cap2, cur2, hv, hg2, _⟩
      · cases hv
      cases hv
      have hcc : cur2 = cur := by have := (h2 g _ hg2).1; rw [hgw] at this; cases this; rfl
      subst hcc
      refine ⟨fun k => if k = g then some (.cells (cur2.toList.take (off + i) ++ List.replicate m z ++ cur2.toList.drop (off + i + (List.replicate m z).length)).toArray e (0, 0)) else none,
        ⟨?_, ?_, .inr ⟨g, off, cap, _, rfl, if_pos rfl, hn, hcm, ?_, ?_⟩⟩, ?_, ?_⟩
      · simp [hlx]; omega
      · intro u hu
        rcases List.mem_append.1 hu with hu | hu
        · exact hone u (List.mem_of_mem_take hu)
        · exact hzs u hu
      · simp; omega
      · have hlen : (cur2.toList.take (off + i)).length = off + i := by rw [List.length_take, Array.length_toList]; omega
        have e1 : cur2.toList.take (off + i) = cur2.toList.take off ++ xs.take i := by
          rw [List.take_add, ← hcur, List.take_take, Nat.min_eq_left (by omega)]
        have hlo : (cur2.toList.take off).length = off := by rw [List.length_take, Array.length_toList]; omega
        rw [e1, List.append_assoc, List.append_assoc, List.drop_append_of_le_length (by omega), List.drop_of_length_le (by omega), List.nil_append, ← List.append_assoc]
        rw [List.take_append_of_le_length (by simp; omega), List.take_of_length_le (by simp; omega)]
      · intro k o ek
        simp only [] at ek
        split at ek
        · rename_i hk; subst hk; cases ek
          exact ⟨setRow_heap w k cur2 _ e (0, 0) hgw, .inl (by rw [hg2]; simp)⟩
        · cases ek
      · intro k hk hak
        refine setRow_other w g k _ ?_
        intro hkg
        rw [hkg, hg2] at hak; cases hak
theorem wpList_clear_row {ops : Array Oper} {rest : List Oper} {o : Oper} {a : Act} {Q : Exit → Act → World → Prop} (hgd : o.guard = none) (ht : P.underlying t = some (.slice e)) (hz : ∀ w, (zeroValue e).run P w = .ok z w) (hc : z.cells = #[z]) (hz1 : z.oneCell' = true) (x : Operand)
    (ho : o.op = .call { callee := .builtin .clear, args := #[x], argTypes := #[t] }) {g off cap : Nat} (i m cc : Nat) (ad : Option Addr) (hxv : a.eval x = .slice ad m cc)
    (hS : Sat B (row e 1 (.slice (some ⟨g, off, none⟩) n cap) n xs :: L) w) (hi : i + m = n) (ha : m = 0 ∨ ad = some ⟨g, off + i, none⟩)
    (h : ∀ w', Sat B (row e 1 (.slice (some ⟨g, off, none⟩) n cap) n (xs.take i ++ List.replicate m z) :: L) w' → wpList P ops Q rest (a.put o.dst (.tuple #[])) w') : wpList P ops Q (o :: rest) a w :=
  wpList_plain hgd fun _ hK => by
    obtain ⟨w', hr, hS'⟩ := run_clear_row o.type ht hz hc hz1 hS i m cc ad hi ha
    unfold Oper.wp execOp
    simp only [ho, resolve, invoke, builtin, Sem.run_bind, Sem.run_pure, Result.andThen_ok, List.map_toArray, List.map_cons, List.map_nil, hxv, hr]
    exact hK _ _ (h w' hS')
end
#print axioms wpList_clear_row
end Go.Proofs.YtajoljoegbeiiaaGreatDoor

namespace Go.Proofs.YtajoljoegbeiiaaGreatDoor
set_option linter.all false
abbrev Bt := List UInt8
structure Fl where
  name : Bt
  bytes : Bt
  synced : Nat
abbrev Fls := List Fl
/-! ### The order of names -/
theorem bt_irrefl (a : Bt) : ¬ a < a := List.lt_irrefl a
theorem bt_trans {a b c : Bt} (h : a < b) (h' : b < c) : a < c := List.lt_trans h h'
theorem bt_tri (a b : Bt) : a < b ∨ a = b ∨ b < a := by
  by_cases h : a < b
  · exact .inl h
  · by_cases h' : b < a
    · exact .inr (.inr h')
    · exact .inr (.inl (List.le_antisymm (List.not_lt.1 h') (List.not_lt.1 h)))
theorem bt_ne {a b : Bt} (h : a < b) : a ≠ b := fun e => bt_irrefl b (e ▸ h)
theorem bt_asymm {a b : Bt} (h : a < b) : ¬ b < a := fun h' => bt_irrefl a (bt_trans h h')
/-! ### Things with names, in order -/
section
variable {α : Type} (nm : α → Bt)
def SrtBy (l : List α) : Prop := l.Pairwise fun a b => nm a < nm b
def putBy (x : α) : List α → List α
  | [] => [x]
  | y :: l => if nm y = nm x then x :: l else if nm x < nm y then x :: y :: l else y :: putBy x l
def getBy (n : Bt) (l : List α) : Option α := l.find? (nm · == n)
variable {nm}
theorem SrtBy.parts {l : List α} {x : α} {r : List α} (h : SrtBy nm (l ++ x :: r)) : (∀ a ∈ l, nm a < nm x) ∧ (∀ b ∈ r, nm x < nm b) ∧ SrtBy nm (l ++ r) := by
  obtain ⟨h1, h2, h3⟩ := List.pairwise_append.1 h
  obtain ⟨h4, h5⟩ := List.pairwise_cons.1 h2
  exact ⟨fun a ha => h3 a ha x (by simp), h4, List.pairwise_append.2 ⟨h1, h5, fun a ha b hb => h3 a ha b (by simp [hb])⟩⟩
theorem getBy_mid {l r : List α} {x : α} (h : SrtBy nm (l ++ x :: r)) : getBy nm (nm x) (l ++ x :: r) = some x := by
  obtain ⟨h1, _, _⟩ := h.parts
  unfold getBy
  rw [List.find?_append, List.find?_eq_none.2 fun a ha => by simpa using bt_ne (h1 a ha)]
  simp
theorem getBy_some {n : Bt} {l : List α} {x : α} (h : getBy nm n l = some x) : ∃ l1 l2, l = l1 ++ x :: l2 ∧ nm x = n := by
  have h1 := List.find?_some h
  have h2 := List.mem_of_find?_eq_some h
  obtain ⟨l1, l2, e⟩ := List.append_of_mem h2
  exact ⟨l1, l2, e, by simpa using h1⟩
theorem getBy_none {n : Bt} {l : List α} (h : getBy nm n l = none) : ∀ a ∈ l, nm a ≠ n := fun a ha => by
  have := List.find?_eq_none.1 h a ha
  simpa using this
theorem putBy_mid {l r : List α} {x y : α} (h : SrtBy nm (l ++ x :: r)) (hy : nm y = nm x) : putBy nm y (l ++ x :: r) = l ++ y :: r := by
  induction l with
  | nil => simp [putBy, hy]
  | cons a l ih =>
    obtain ⟨h1, _, _⟩ := h.parts
    have ha : nm a < nm x := h1 a (by simp)
    have e1 : ¬ nm a = nm y := by rw [hy]; exact bt_ne ha
    have e2 : ¬ nm y < nm a := by rw [hy]; exact bt_asymm ha
    rw [List.cons_append, putBy, if_neg e1, if_neg e2, ih (List.Pairwise.of_cons h), List.cons_append]
theorem putBy_new {l : List α} {y : α} (h : SrtBy nm l) (hn : ∀ a ∈ l, nm a ≠ nm y) : ∃ l1 l2, l = l1 ++ l2 ∧ putBy nm y l = l1 ++ y :: l2 ∧ SrtBy nm (l1 ++ y :: l2) := by
  induction l with
  | nil => exact ⟨[], [], rfl, rfl, List.pairwise_singleton _ _⟩
  | cons a l ih =>
    have e1 : ¬ nm a = nm y := hn a (by simp)
    by_cases e2 : nm y < nm a
    · refine ⟨[], a :: l, rfl, by simp [putBy, e1, e2], ?_⟩
      obtain ⟨h1, h2⟩ := List.pairwise_cons.1 h
      refine List.pairwise_cons.2 ⟨fun b hb => ?_, h⟩
      rcases List.mem_cons.1 hb with rfl | hb
      · exact e2
      · exact bt_trans e2 (h1 b hb)
    · obtain ⟨h1, h2⟩ := List.pairwise_cons.1 h
      obtain ⟨l1, l2, g1, g2, g3⟩ := ih h2 fun b hb => hn b (by simp [hb])
      refine ⟨a :: l1, l2, by rw [g1]; rfl, by rw [putBy, if_neg e1, if_neg e2, g2]; rfl, ?_⟩
      refine List.pairwise_cons.2 ⟨fun b hb => ?_, g3⟩
      rcases List.mem_append.1 hb with hb | hb
      · exact h1 b (by rw [g1]; simp [hb])
      · rcases List.mem_cons.1 hb with rfl | hb
        · exact (bt_tri (nm a) (nm b)).resolve_right fun h => h.elim e1 e2
        · exact h1 b (by rw [g1]; simp [hb])
theorem SrtBy.put {l : List α} (h : SrtBy nm l) (y : α) : SrtBy nm (putBy nm y l) := by
  cases hg : getBy nm (nm y) l with
  | none =>
    obtain ⟨l1, l2, _, h2, h3⟩ := putBy_new h (getBy_none hg)
    rw [h2]; exact h3
  | some x =>
    obtain ⟨l1, l2, rfl, hx⟩ := getBy_some hg
    rw [putBy_mid h hx.symm]
    have h' := h
    obtain ⟨h1, h2, h3⟩ := h.parts
    obtain ⟨g1, g2, g3⟩ := List.pairwise_append.1 h3
    refine List.pairwise_append.2 ⟨g1, List.pairwise_cons.2 ⟨fun b hb => by rw [← hx]; exact h2 b hb, g2⟩, fun a ha b hb => ?_⟩
    rcases List.mem_cons.1 hb with rfl | hb
    · rw [← hx]; exact h1 a ha
    · exact g3 a ha b hb
theorem getBy_put {l : List α} (h : SrtBy nm l) (y : α) (n : Bt) : getBy nm n (putBy nm y l) = if nm y = n then some y else getBy nm n l := by
  have hf : ∀ (l1 l2 : List α) (z : α), SrtBy nm (l1 ++ z :: l2) → nm z ≠ n → getBy nm n (l1 ++ z :: l2) = getBy nm n (l1 ++ l2) := fun l1 l2 z _ hz => by
    unfold getBy
    rw [List.find?_append, List.find?_append, List.find?_cons]
    have : (nm z == n) = false := by simpa using hz
    rw [this]
  have hp := h.put y
  cases hg : getBy nm (nm y) l with
  | none =>
    obtain ⟨l1, l2, e, h2, h3⟩ := putBy_new h (getBy_none hg)
    rw [h2]
    split
    · rename_i hn; rw [← hn]; exact getBy_mid h3
    · rename_i hn; rw [hf _ _ _ h3 hn, e]
  | some x =>
    obtain ⟨l1, l2, e, hx⟩ := getBy_some hg
    subst e
    rw [putBy_mid h hx.symm] at hp ⊢
    split
    · rename_i hn; rw [← hn]; exact getBy_mid hp
    · rename_i hn; rw [hf _ _ _ hp hn, hf _ _ _ h (by rw [hx]; exact hn)]
/-- Two lists in order that hold the same are the same. -/
theorem SrtBy.ext {l l' : List α} (h : SrtBy nm l) (h' : SrtBy nm l') (he : ∀ a, a ∈ l ↔ a ∈ l') : l = l' := by
  induction l generalizing l' with
  | nil =>
    cases l' with
    | nil => rfl
    | cons b l' => exact absurd ((he b).2 (by simp)) (by simp)
  | cons a l ih =>
    cases l' with
    | nil => exact absurd ((he a).1 (by simp)) (by simp)
    | cons b l' =>
      obtain ⟨h1, h2⟩ := List.pairwise_cons.1 h
      obtain ⟨h3, h4⟩ := List.pairwise_cons.1 h'
      have hab : a = b := by
        rcases List.mem_cons.1 ((he a).1 (by simp)) with e | e
        · exact e
        · rcases List.mem_cons.1 ((he b).2 (by simp)) with e' | e'
          · exact e'.symm
          · exact absurd (h3 a e) (bt_asymm (h1 b e'))
      subst hab
      congr 1
      refine ih h2 h4 fun x => ⟨fun hx => ?_, fun hx => ?_⟩
      · rcases List.mem_cons.1 ((he x).1 (by simp [hx])) with e | e
        · subst e; exact absurd (h1 x hx) (bt_irrefl _)
        · exact e
      · rcases List.mem_cons.1 ((he x).2 (by simp [hx])) with e | e
        · subst e; exact absurd (h3 x hx) (bt_irrefl _)
        · exact e
end
/-! ### A disk's files -/
def usedD (D : Fls) : Nat := (D.map (·.bytes.length)).sum
abbrev getF (n : Bt) (D : Fls) : Option Fl := getBy Fl.name n D
abbrev putF (f : Fl) (D : Fls) : Fls := putBy Fl.name f D
theorem used_mid (l r : Fls) (f : Fl) : usedD (l ++ f :: r) = usedD (l ++ r) + f.bytes.length := by simp [usedD]; omega
structure DOk (room : Nat) (D : Fls) : Prop where
  srt : SrtBy Fl.name D
  used : usedD D ≤ room
  room : room ≤ 9223372036854775807
  sync : ∀ f ∈ D, f.synced ≤ f.bytes.length
  names : ∀ f ∈ D, f.name.length ≤ 64
def okName (n : Bt) : Bool := decide (n ≠ []) && decide (n.length ≤ 64)
def bytesOf (n : Bt) (D : Fls) : Bt := ((getF n D).map (·.bytes)).getD []
def syncedOf (n : Bt) (D : Fls) : Nat := ((getF n D).map (·.synced)).getD 0
/-- Append: an error, or the disk behind it. -/
def appendD (room : Nat) (D : Fls) (n data : Bt) : Int × Fls :=
  if okName n = false then (2, D) else if room < usedD D + data.length then (7, D) else (0, putF ⟨n, bytesOf n D ++ data, syncedOf n D⟩ D)
/-- What a crash leaves of a file of which u bytes are not synced. -/
def leftOf (k : Option Int) (u : Nat) : Nat := match k with
  | none => 0
  | some x => (x % ((u : Int) + 1)).toNat
def crashF (k : Option Int) (f : Fl) : Fl := ⟨f.name, f.bytes.take (f.synced + leftOf k (f.bytes.length - f.synced)), f.synced + leftOf k (f.bytes.length - f.synced)⟩
def crashD (keep : List Int) : Nat → Fls → Fls
  | _, [] => []
  | k, f :: l => crashF keep[k]? f :: crashD keep (k + 1) l
theorem leftOf_le (k : Option Int) (u : Nat) : leftOf k u ≤ u := by
  unfold leftOf
  split
  · omega
  · rename_i x
    have h1 := Int.emod_nonneg x (b := (u : Int) + 1) (by omega)
    have h2 := Int.emod_lt_of_pos x (b := (u : Int) + 1) (by omega)
    omega
theorem crashF_len {k : Option Int} {f : Fl} (h : f.synced ≤ f.bytes.length) : (crashF k f).bytes.length = f.synced + leftOf k (f.bytes.length - f.synced) := by
  have := leftOf_le k (f.bytes.length - f.synced)
  simp only [crashF, List.length_take]; omega
theorem used_put_le {D : Fls} {f g : Fl} {room : Nat} (h : SrtBy Fl.name D) (hg : getF g.name D = some f) : usedD (putF g D) + f.bytes.length = usedD D + g.bytes.length := by
  obtain ⟨l1, l2, rfl, hx⟩ := getBy_some hg
  rw [putF, putBy_mid h hx.symm, used_mid, used_mid]; omega
theorem used_put_new {D : Fls} {g : Fl} (h : SrtBy Fl.name D) (hg : getF g.name D = none) : usedD (putF g D) = usedD D + g.bytes.length := by
  obtain ⟨l1, l2, e, h2, h3⟩ := putBy_new h (getBy_none hg)
  rw [putF, h2, used_mid, e]
theorem mem_put {D : Fls} {g f : Fl} (h : SrtBy Fl.name D) (hf : f ∈ putF g D) : f = g ∨ (f ∈ D ∧ f.name ≠ g.name) := by
  have hs := h.put (nm := Fl.name) g
  by_cases hn : f.name = g.name
  · left
    have h1 : getF g.name (putF g D) = some g := by rw [getF, putF, getBy_put h, if_pos rfl]
    obtain ⟨l1, l2, e⟩ := List.append_of_mem hf
    have h2 : getF f.name (putF g D) = some f := by
      have hs' : SrtBy Fl.name (l1 ++ f :: l2) := e ▸ hs
      rw [e]; exact getBy_mid hs'
    rw [hn, h1] at h2
    exact (Option.some.inj h2).symm
  · right
    obtain ⟨l1, l2, e⟩ := List.append_of_mem hf
    have h2 : getF f.name (putF g D) = some f := by
      have hs' : SrtBy Fl.name (l1 ++ f :: l2) := e ▸ hs
      rw [e]; exact getBy_mid hs'
    rw [getF, putF, getBy_put h, if_neg (Ne.symm hn)] at h2
    exact ⟨List.mem_of_find?_eq_some h2, hn⟩
theorem sync_le {room : Nat} {D : Fls} (h : DOk room D) {n : Bt} {f : Fl} (hg : getF n D = some f) : f.synced ≤ f.bytes.length := h.sync f (List.mem_of_find?_eq_some hg)
theorem DOk.append {room : Nat} {D : Fls} (h : DOk room D) (n data : Bt) : DOk room (appendD room D n data).2 := by
  unfold appendD
  split
  · exact h
  · rename_i hnm
    split
    · exact h
    · refine ⟨h.srt.put _, ?_, h.room, fun f hf => ?_, fun f hf => ?_⟩
      · cases hg : getF n D with
        | none => rw [used_put_new h.srt hg]; simp [bytesOf, hg]; omega
        | some x =>
          have := used_put_le (g := ⟨n, bytesOf n D ++ data, syncedOf n D⟩) (room := room) h.srt hg
          simp [bytesOf, hg] at this ⊢; omega
      · rcases mem_put h.srt hf with rfl | ⟨hf, _⟩
        · cases hg : getF n D with
          | none => simp [bytesOf, syncedOf, hg]
          | some x => have := sync_le h hg; simp [bytesOf, syncedOf, hg]; omega
        · exact h.sync f hf
      · rcases mem_put h.srt hf with rfl | ⟨hf, _⟩
        · simp [okName] at hnm; exact hnm.2
        · exact h.names f hf
theorem crashD_names (keep : List Int) : ∀ (k : Nat) (D : Fls), (crashD keep k D).map (·.name) = D.map (·.name)
  | _, [] => rfl
  | k, f :: l => by rw [crashD, List.map_cons, crashD_names keep (k + 1) l]; rfl
theorem crashD_get (keep : List Int) : ∀ (k : Nat) (D : Fls) (i : Nat), (crashD keep k D)[i]? = (D[i]?).map (crashF keep[k + i]?)
  | _, [], i => by simp [crashD]
  | k, f :: l, 0 => by simp [crashD]
  | k, f :: l, i + 1 => by rw [crashD, List.getElem?_cons_succ, crashD_get keep (k + 1) l i, List.getElem?_cons_succ, show k + 1 + i = k + (i + 1) by omega]
theorem used_crash (keep : List Int) : ∀ (k : Nat) (D : Fls), (∀ f ∈ D, f.synced ≤ f.bytes.length) → usedD (crashD keep k D) ≤ usedD D
  | _, [], _ => Nat.le_refl _
  | k, f :: l, h => by
    have h1 := used_crash keep (k + 1) l fun x hx => h x (by simp [hx])
    have h2 := crashF_len (k := keep[k]?) (h f (by simp))
    have h3 := leftOf_le keep[k]? (f.bytes.length - f.synced)
    have h4 := h f (by simp)
    have e1 : usedD (f :: l) = f.bytes.length + usedD l := by simp [usedD]
    have e2 : usedD (crashD keep k (f :: l)) = (crashF keep[k]? f).bytes.length + usedD (crashD keep (k + 1) l) := by simp [usedD, crashD]
    rw [e1, e2, h2]; omega
theorem DOk.crash {room : Nat} {D : Fls} (h : DOk room D) (keep : List Int) : DOk room (crashD keep 0 D) := by
  refine ⟨?_, Nat.le_trans (used_crash keep 0 D h.sync) h.used, h.room, fun x hx => ?_, fun x hx => ?_⟩
  · have := (List.pairwise_map (f := Fl.name) (R := fun a b => a < b) (l := crashD keep 0 D)).1 (by rw [crashD_names]; exact List.pairwise_map.2 h.srt)
    exact this
  · obtain ⟨i, hi⟩ := List.mem_iff_getElem?.1 hx
    rw [crashD_get] at hi
    obtain ⟨f, hf, rfl⟩ := Option.map_eq_some_iff.1 hi
    rw [crashF_len (h.sync f (List.mem_of_getElem? hf))]
    exact Nat.le_refl _
  · have : x.name ∈ D.map (·.name) := by rw [← crashD_names keep 0]; exact List.mem_map.2 ⟨x, hx, rfl⟩
    obtain ⟨y, hy, e⟩ := List.mem_map.1 this
    rw [← e]; exact h.names y hy
#print axioms DOk.crash
end Go.Proofs.YtajoljoegbeiiaaGreatDoor

namespace Go.Proofs.YtajoljoegbeiiaaGreatDoor
set_option linter.all false
/-! ### Sums -/
def stepN (x : Nat) : Nat := if x % 2 = 1 then (x >>> 1) ^^^ 3988292384 else x >>> 1
def tabN (x : Nat) : Nat := stepN (stepN (stepN (stepN (stepN (stepN (stepN (stepN x)))))))
def regN (x : Nat) (b : UInt8) : Nat := (x >>> 8) ^^^ tabN ((x % 256) ^^^ b.toNat)
def sumN (l : Bt) : Nat := 4294967295 ^^^ l.foldl regN 4294967295
theorem stepN_lt {x : Nat} (h : x < 4294967296) : stepN x < 4294967296 := by
  have h1 : x >>> 1 < 2 ^ 32 := by rw [Nat.shiftRight_eq_div_pow]; omega
  unfold stepN
  split
  · exact Nat.xor_lt_two_pow (n := 32) h1 (by omega)
  · exact h1
theorem tabN_lt {x : Nat} (h : x < 4294967296) : tabN x < 4294967296 := stepN_lt (stepN_lt (stepN_lt (stepN_lt (stepN_lt (stepN_lt (stepN_lt (stepN_lt h)))))))
theorem low_lt (x : Nat) (b : UInt8) : (x % 256) ^^^ b.toNat < 256 := Nat.xor_lt_two_pow (n := 8) (by omega) b.toNat_lt
theorem regN_lt {x : Nat} (h : x < 4294967296) (b : UInt8) : regN x b < 4294967296 := by
  refine Nat.xor_lt_two_pow (n := 32) ?_ (tabN_lt (Nat.lt_trans (low_lt x b) (by omega)))
  rw [Nat.shiftRight_eq_div_pow]; omega
theorem fold_lt (l : Bt) : ∀ {x : Nat}, x < 4294967296 → l.foldl regN x < 4294967296 := by
  induction l with
  | nil => intro x h; exact h
  | cons b l ih => intro x h; exact ih (regN_lt h b)
theorem sumN_lt (l : Bt) : sumN l < 4294967296 := Nat.xor_lt_two_pow (n := 32) (by omega) (fold_lt l (by omega))
/-! ### Frames -/
def be4 (n : Nat) : Bt := [UInt8.ofNat (n / 16777216), UInt8.ofNat (n / 65536), UInt8.ofNat (n / 256), UInt8.ofNat n]
def le4 (n : Nat) : Bt := [UInt8.ofNat n, UInt8.ofNat (n / 256), UInt8.ofNat (n / 65536), UInt8.ofNat (n / 16777216)]
def num4 (a b c d : UInt8) : Nat := a.toNat * 16777216 + b.toNat * 65536 + c.toNat * 256 + d.toNat
theorem num4_be {n : Nat} (h : n < 4294967296) : num4 (UInt8.ofNat (n / 16777216)) (UInt8.ofNat (n / 65536)) (UInt8.ofNat (n / 256)) (UInt8.ofNat n) = n := by
  simp only [num4, UInt8.toNat_ofNat']
  omega
def frameB (b : Bt) : Bt := be4 b.length ++ (le4 (sumN (be4 b.length ++ b)) ++ b)
theorem frame_len (b : Bt) : (frameB b).length = 8 + b.length := by simp [frameB, be4, le4]; omega
def openB : Bt → Option Bt
  | a :: b :: c :: d :: e :: f :: g :: h :: r =>
    if num4 a b c d ≤ 1048576 ∧ num4 a b c d ≤ r.length ∧ sumN (a :: b :: c :: d :: r.take (num4 a b c d)) = num4 h g f e then some (r.take (num4 a b c d)) else none
  | _ => none
theorem openB_eight {s : Bt} (h : 8 ≤ s.length) : ∃ a b c d e f g i r, s = a :: b :: c :: d :: e :: f :: g :: i :: r := by
  match s, h with
  | a :: b :: c :: d :: e :: f :: g :: i :: r, _ => exact ⟨a, b, c, d, e, f, g, i, r, rfl⟩
theorem openB_short {s : Bt} (h : s.length < 8) : openB s = none := by
  unfold openB
  split
  · simp at h; omega
  · rfl
theorem openB_frame (b r : Bt) (h : b.length ≤ 1048576) : openB (frameB b ++ r) = some b := by
  have e1 := num4_be (n := b.length) (by omega)
  have e2 := num4_be (sumN_lt (be4 b.length ++ b))
  have : frameB b ++ r = UInt8.ofNat (b.length / 16777216) :: UInt8.ofNat (b.length / 65536) :: UInt8.ofNat (b.length / 256) :: UInt8.ofNat b.length :: UInt8.ofNat (sumN (be4 b.length ++ b)) :: UInt8.ofNat (sumN (be4 b.length ++ b) / 256) :: UInt8.ofNat (sumN (be4 b.length ++ b) / 65536) :: UInt8.ofNat (sumN (be4 b.length ++ b) / 16777216) :: (b ++ r) := by
    simp [frameB, be4, le4]
  rw [this, openB, e1, e2, List.take_left, if_pos]
  exact ⟨h, by simp, rfl⟩
theorem frameB_take {b : Bt} {k : Nat} (hk : k < (frameB b).length) (h : b.length ≤ 1048576) : openB ((frameB b).take k) = none := by
  rw [frame_len] at hk
  by_cases h8 : k < 8
  · exact openB_short (by rw [List.length_take]; omega)
  · have e1 := num4_be (n := b.length) (by omega)
    obtain ⟨j, rfl⟩ : ∃ j, k = j + 8 := ⟨k - 8, by omega⟩
    have : (frameB b).take (j + 8) = UInt8.ofNat (b.length / 16777216) :: UInt8.ofNat (b.length / 65536) :: UInt8.ofNat (b.length / 256) :: UInt8.ofNat b.length :: UInt8.ofNat (sumN (be4 b.length ++ b)) :: UInt8.ofNat (sumN (be4 b.length ++ b) / 256) :: UInt8.ofNat (sumN (be4 b.length ++ b) / 65536) :: UInt8.ofNat (sumN (be4 b.length ++ b) / 16777216) :: b.take j := by
      simp [frameB, be4, le4]
    rw [this, openB, e1, if_neg]
    rintro ⟨_, h2, _⟩
    rw [List.length_take] at h2; omega
theorem u8_back (a b c d : UInt8) : [a, b, c, d] = be4 (num4 a b c d) := by
  have := a.toNat_lt; have := b.toNat_lt; have := c.toNat_lt; have := d.toNat_lt
  have e : ∀ (x : UInt8) (n : Nat), x.toNat = n % 256 → x = UInt8.ofNat n := fun x n h => UInt8.toNat_inj.1 (by rw [UInt8.toNat_ofNat', h])
  unfold be4 num4
  rw [← e a _ (by omega), ← e b _ (by omega), ← e c _ (by omega), ← e d _ (by omega)]
theorem u8_back' (a b c d : UInt8) : [a, b, c, d] = le4 (num4 d c b a) := by
  have := u8_back d c b a
  simp only [be4, le4, List.cons.injEq, and_true] at this ⊢
  exact ⟨this.2.2.2, this.2.2.1, this.2.1, this.1⟩
theorem openB_cons (a b c d e f g h : UInt8) (r : Bt) (n : Nat) (hn : num4 a b c d = n) : openB (a :: b :: c :: d :: e :: f :: g :: h :: r) = if n ≤ 1048576 ∧ n ≤ r.length ∧ sumN (a :: b :: c :: d :: r.take n) = num4 h g f e then some (r.take n) else none := by subst hn; rfl
theorem be4_app (a b c d : UInt8) (n : Nat) (hn : num4 a b c d = n) (t : Bt) : be4 n ++ t = a :: b :: c :: d :: t := by subst hn; rw [← u8_back]; rfl
theorem le4_app (a b c d : UInt8) (n : Nat) (hn : num4 d c b a = n) (t : Bt) : le4 n ++ t = a :: b :: c :: d :: t := by subst hn; rw [← u8_back']; rfl
theorem openB_some {s b : Bt} (h : openB s = some b) : b.length ≤ 1048576 ∧ 8 + b.length ≤ s.length ∧ s.take (8 + b.length) = frameB b := by
  by_cases h8 : s.length < 8
  · rw [openB_short h8] at h; cases h
  · obtain ⟨a, b', c, d, e, f, g, i, r, rfl⟩ := openB_eight (Nat.le_of_not_lt h8)
    obtain ⟨n, hn⟩ : ∃ n, num4 a b' c d = n := ⟨_, rfl⟩
    obtain ⟨m, hm⟩ : ∃ m, num4 i g f e = m := ⟨_, rfl⟩
    rw [openB_cons a b' c d e f g i r n hn, hm] at h
    by_cases hc : n ≤ 1048576 ∧ n ≤ r.length ∧ sumN (a :: b' :: c :: d :: r.take n) = m
    · rw [if_pos hc] at h
      obtain ⟨h1, h2, h3⟩ := hc
      have hb := (Option.some.inj h).symm
      have hl : b.length = n := by rw [hb, List.length_take]; omega
      refine ⟨by omega, by simp; omega, ?_⟩
      have e1 : be4 n ++ b = a :: b' :: c :: d :: r.take n := by rw [be4_app a b' c d n hn, hb]
      rw [frameB, hl, e1, h3, le4_app e f g i m hm, be4_app a b' c d n hn, hb]
      have : 8 + n = n + 8 := by omega
      rw [this]
      clear hn hm h h3 e1
      simp
    · rw [if_neg hc] at h; cases h
/-! ### Scanning -/
def goodB (rs : List Bt) : Nat := (rs.map fun b => 8 + b.length).sum
def framesB (rs : List Bt) : Bt := (rs.map frameB).flatten
theorem good_cons (b : Bt) (rs : List Bt) : goodB (b :: rs) = 8 + b.length + goodB rs := by simp [goodB]
theorem frames_cons (b : Bt) (rs : List Bt) : framesB (b :: rs) = frameB b ++ framesB rs := rfl
def scanF : Nat → Bt → List Bt
  | 0, _ => []
  | k + 1, s => match openB s with
    | none => []
    | some b => b :: scanF k (s.drop (8 + b.length))
def scanB (s : Bt) : List Bt := scanF s.length s
theorem scanF_fuel : ∀ (k j : Nat) (s : Bt), s.length ≤ k → s.length ≤ j → scanF k s = scanF j s
  | 0, 0, _, _, _ => rfl
  | 0, j + 1, s, h, _ => by
    have : openB s = none := openB_short (by omega)
    simp [scanF, this]
  | k + 1, 0, s, _, h => by
    have : openB s = none := openB_short (by omega)
    simp [scanF, this]
  | k + 1, j + 1, s, h1, h2 => by
    unfold scanF
    cases ho : openB s with
    | none => rfl
    | some b =>
      obtain ⟨_, h3, _⟩ := openB_some ho
      simp only
      rw [scanF_fuel k j _ (by rw [List.length_drop]; omega) (by rw [List.length_drop]; omega)]
theorem scan_none {s : Bt} (h : openB s = none) : scanB s = [] := by
  unfold scanB
  cases hl : s.length with
  | zero => rfl
  | succ k => simp [scanF, h]
theorem scan_some {s b : Bt} (h : openB s = some b) : scanB s = b :: scanB (s.drop (8 + b.length)) := by
  obtain ⟨_, h3, _⟩ := openB_some h
  unfold scanB
  cases hl : s.length with
  | zero => omega
  | succ k =>
    rw [scanF, h]
    simp only
    rw [scanF_fuel k _ _ (by rw [List.length_drop]; omega) (Nat.le_refl _)]
theorem scan_cut (rs : List Bt) (h : ∀ b ∈ rs, b.length ≤ 1048576) : ∀ (k : Nat), k ≤ goodB rs → ∃ j, j ≤ rs.length ∧ scanB ((framesB rs).take k) = rs.take j ∧ goodB (rs.take j) ≤ k ∧ ∀ i, i ≤ rs.length → goodB (rs.take i) ≤ k → i ≤ j := by
  induction rs with
  | nil => intro k hk; exact ⟨0, by simp, by simp [framesB, scan_none (openB_short (s := []) (by simp))], by simp [goodB], fun i hi _ => by simpa using hi⟩
  | cons b rs ih =>
    intro k hk
    have hb := h b (by simp)
    rw [good_cons] at hk
    by_cases hkb : k < 8 + b.length
    · refine ⟨0, by simp, ?_, by simp [goodB], fun i hi hg => ?_⟩
      · rw [frames_cons, List.take_append_of_le_length (by rw [frame_len]; omega)]
        exact scan_none (frameB_take (by rw [frame_len]; exact hkb) hb)
      · cases i with
        | zero => omega
        | succ i => rw [List.take_succ_cons, good_cons] at hg; omega
    · obtain ⟨j, h1, h2, h3, h4⟩ := ih (fun x hx => h x (by simp [hx])) (k - (8 + b.length)) (by omega)
      refine ⟨j + 1, by simp; omega, ?_, ?_, fun i hi hg => ?_⟩
      · have e : (framesB (b :: rs)).take k = frameB b ++ (framesB rs).take (k - (8 + b.length)) := by
          rw [frames_cons, List.take_append, frame_len, List.take_of_length_le (by rw [frame_len]; omega)]
        rw [e, scan_some (openB_frame b _ hb), List.drop_left' (frame_len b), h2]
        rfl
      · rw [List.take_succ_cons, good_cons]; omega
      · cases i with
        | zero => omega
        | succ i =>
          rw [List.take_succ_cons, good_cons] at hg
          have := h4 i (by simpa using hi) (by omega)
          omega
/-! ### Names -/
open Go.Lib
def pad16 (n : Nat) : Bt := List.replicate (16 - (decDigits n).length) 48 ++ decDigits n
def nameW (p : Bt) (n : Nat) : Bt := p ++ pad16 n
def decV (l : Bt) : Nat := l.foldl (fun n b => 10 * n + (b.toNat - 48)) 0
/-- k digits of a number. -/
def digsK : Nat → Nat → Bt
  | 0, _ => []
  | k + 1, n => digsK k (n / 10) ++ [UInt8.ofNat (48 + n % 10)]
theorem digsK_len : ∀ k n, (digsK k n).length = k
  | 0, _ => rfl
  | k + 1, n => by simp [digsK, digsK_len k]
theorem dig_toNat (n : Nat) : (UInt8.ofNat (48 + n % 10)).toNat = 48 + n % 10 := by rw [UInt8.toNat_ofNat']; omega
theorem decV_snoc (l : Bt) (b : UInt8) : decV (l ++ [b]) = 10 * decV l + (b.toNat - 48) := by simp [decV]
theorem decV_digsK : ∀ k n, n < 10 ^ k → decV (digsK k n) = n
  | 0, n, h => by simp at h; subst h; rfl
  | k + 1, n, h => by
    rw [Nat.pow_succ] at h
    rw [digsK, decV_snoc, decV_digsK k (n / 10) (by omega), dig_toNat]
    omega
theorem digsK_rep (k n : Nat) : n < 10 → digsK (k + 1) n = List.replicate k 48 ++ [UInt8.ofNat (48 + n)] := by
  intro h
  have hz : ∀ k, digsK k 0 = List.replicate k 48 := fun k => by
    induction k with
    | zero => rfl
    | succ k ih => rw [digsK, Nat.zero_div, ih, List.replicate_succ']; rfl
  rw [digsK, show n / 10 = 0 by omega, show n % 10 = n by omega, hz]
theorem digsK_dec (k : Nat) : ∀ n, n < 10 ^ k → 1 ≤ k → digsK k n = List.replicate (k - (decDigits n).length) 48 ++ decDigits n := by
  induction k with
  | zero => intro n _ h; omega
  | succ k ih =>
    intro n hn _
    by_cases h : n < 10
    · rw [digsK_rep k n h, decDigits, dif_pos h]; rfl
    · have hk : 1 ≤ k := by
        rcases Nat.eq_zero_or_pos k with rfl | hk
        · simp at hn; omega
        · exact hk
      rw [digsK, ih (n / 10) (by rw [Nat.pow_succ] at hn; omega) hk]
      conv => rhs; rw [decDigits, dif_neg h]
      simp
theorem pad16_eq {n : Nat} (h : n < 10 ^ 16) : pad16 n = digsK 16 n := (digsK_dec 16 n h (by omega)).symm
theorem lt_snoc : ∀ (a b : Bt) (x y : UInt8), a.length = b.length → (a ++ [x] < b ++ [y] ↔ a < b ∨ (a = b ∧ x < y))
  | [], [], x, y, _ => by rw [List.nil_append, List.nil_append, List.cons_lt_cons_iff]; simp
  | a :: l, b :: m, x, y, h => by
    have h' : l.length = m.length := by simpa using h
    rw [List.cons_append, List.cons_append, List.cons_lt_cons_iff, List.cons_lt_cons_iff, lt_snoc l m x y h']
    constructor
    · rintro (h1 | ⟨h1, h2 | ⟨h2, h3⟩⟩)
      · exact .inl (.inl h1)
      · exact .inl (.inr ⟨h1, h2⟩)
      · exact .inr ⟨by rw [h1, h2], h3⟩
    · rintro ((h1 | ⟨h1, h2⟩) | ⟨h1, h2⟩)
      · exact .inl h1
      · exact .inr ⟨h1, .inl h2⟩
      · obtain ⟨e1, e2⟩ := List.cons.inj h1
        exact .inr ⟨e1, .inr ⟨e2, h2⟩⟩
theorem digsK_lt : ∀ (k n m : Nat), n < 10 ^ k → m < 10 ^ k → (digsK k n < digsK k m ↔ n < m)
  | 0, n, m, hn, hm => by simp at hn hm; subst hn; subst hm; simp [digsK]
  | k + 1, n, m, hn, hm => by
    rw [Nat.pow_succ] at hn hm
    have ih := digsK_lt k (n / 10) (m / 10) (by omega) (by omega)
    rw [digsK, digsK, lt_snoc _ _ _ _ (by rw [digsK_len, digsK_len]), ih, UInt8.lt_iff_toNat_lt, dig_toNat, dig_toNat]
    constructor
    · rintro (h | ⟨h1, h2⟩)
      · omega
      · have := congrArg decV h1
        rw [decV_digsK k _ (by omega), decV_digsK k _ (by omega)] at this
        omega
    · intro h
      by_cases h1 : n / 10 < m / 10
      · exact .inl h1
      · exact .inr ⟨by rw [show n / 10 = m / 10 by omega], by omega⟩
theorem append_lt_iff (p a b : Bt) : p ++ a < p ++ b ↔ a < b := by
  induction p with
  | nil => rfl
  | cons x p ih => rw [List.cons_append, List.cons_append, List.cons_lt_cons_iff, ih]; constructor
                   · rintro (h | ⟨_, h⟩)
                     · exact absurd h (UInt8.lt_irrefl x)
                     · exact h
                   · exact fun h => .inr ⟨rfl, h⟩
theorem name_lt {p : Bt} {n m : Nat} (hn : n ≤ 1000000000000000) (hm : m ≤ 1000000000000000) : nameW p n < nameW p m ↔ n < m := by
  rw [nameW, nameW, append_lt_iff, pad16_eq (by omega), pad16_eq (by omega), digsK_lt 16 n m (by omega) (by omega)]
#print axioms name_lt
#print axioms scan_cut
end Go.Proofs.YtajoljoegbeiiaaGreatDoor

namespace Go.Proofs.YtajoljoegbeiiaaGreatDoor
set_option linter.all false
abbrev bA' (n : Bt) : ByteArray := ⟨n.toArray⟩
end Go.Proofs.YtajoljoegbeiiaaGreatDoor

namespace Go.Proofs.YtajoljoegbeiiaaGreatDoor
set_option linter.all false
set_option maxRecDepth 100000
set_option maxHeartbeats 1000000
open Go.RowKit
def itN : Nat → Nat → Nat
  | 0, x => x
  | r + 1, x => stepN (itN r x)
theorem itN_lt {x : Nat} (h : x < 4294967296) : ∀ r, itN r x < 4294967296
  | 0 => h
  | r + 1 => stepN_lt (itN_lt h r)
theorem itN_tab (x : Nat) : itN 8 x = tabN x := rfl
theorem and1_u32 (x : Nat) (h : x < 4294967296) : (bits .and .u32 (x : Int) 1 == 1) = decide (x % 2 = 1) := by
  have := u32_and_nat x 1 h (by omega)
  rw [show (1 : Int) = ((1 : Nat) : Int) from rfl, this, Nat.and_one_is_mod]
  by_cases hx : x % 2 = 1
  · simp [hx]
  · have : x % 2 = 0 := by omega
    simp [this]
theorem step_odd {x : Nat} (h : x < 4294967296) (h1 : x % 2 = 1) : (stepN x : Int) = bits .xor .u32 ((x : Int) / 2) 3988292384 := by
  have e : (x : Int) / 2 = ((x / 2 : Nat) : Int) := by omega
  rw [e, show (3988292384 : Int) = ((3988292384 : Nat) : Int) from rfl, u32_xor_nat _ _ (by omega) (by omega), stepN, if_pos h1, Nat.shiftRight_eq_div_pow]
theorem step_even {x : Nat} (h1 : x % 2 ≠ 1) : (stepN x : Int) = (x : Int) / 2 := by
  rw [stepN, if_neg h1, Nat.shiftRight_eq_div_pow]; omega
theorem num_u32 {a b : Int} (h : a = b) : Value.int .u32 a = .int .u32 b := by rw [h]
section
variable {B w : World} {L : List HP}
/-- 'table'. -/
theorem psTable (h : Sat B L w) : Calls Tryz.prog 236 #[] w fun y w' => ∃ b cs, y = .returned (.pointer (some ⟨b, 0, none⟩)) ∧ (∀ j, j < 256 → cs[j]? = some (.int .u32 (tabN j : Int))) ∧ Sat B (pt b (.cells cs 322) :: L) w' := by
  go_enter Tryz.func236, Tryz.ntmps236
  go_wp2_with fail
  have hz : Tryz.zeroCells322.size = 256 := by kernel_rfl
  have h1 := h.alloc' (.cells Tryz.zeroCells322 322) (n := w.heap.size) rfl
  generalize w.alloc (.cells Tryz.zeroCells322 322) = w1 at h1 ⊢
  generalize Tryz.zeroCells322 = zc at h1 hz
  generalize w.heap.size = b at h1 ⊢
  have Hz := Lib.hid hz
  clear h hz
  go_loopg [4] 257 (fun gh v4 wr => ∃ (k : Nat) (cs : Array Value), k ≤ 256 ∧ 257 ≤ k + gh ∧ cs.size = 256 ∧ (∀ j, j < k → cs[j]? = some (.int .u32 (tabN j : Int))) ∧ v4 = .int .i64 (k : Int) ∧ Sat B (pt b (.cells cs 322) :: L) wr)
  case atStart => exact ⟨0, zc, by omega, by omega, Hz.out, fun j hj => by omega, rfl, h1⟩
  case round =>
    obtain ⟨k, cs, hk1, hk2, hsz, hcs, rfl, hS⟩ := hrel
    have Hs := Lib.hid hsz
    have Hc := Lib.hid hcs
    clear hsz hcs h1
    by_cases hlt : k < 256
    · have b1 : (k : Int) < 256 := by omega
      go_wp2_with fail
      obtain ⟨gO, rfl⟩ : ∃ gO, gO = gk := ⟨_, rfl⟩
      obtain ⟨w0, hw0⟩ : ∃ w0, w0 = wr := ⟨_, rfl⟩
      have HW := Lib.hid hw0
      clear hw0
      go_loopg [3, 9] 9 (fun gh v3 v9 wz => ∃ r : Nat, r ≤ 8 ∧ 9 ≤ r + gh ∧ v3 = .int .u32 (itN r k : Int) ∧ v9 = .int .i64 (r : Int) ∧ wz = w0)
      case atStart => exact ⟨0, by omega, by omega, rfl, rfl, HW.out.symm⟩
      case round =>
        obtain ⟨r, hr1, hr2, rfl, rfl, rfl⟩ := hrel
        obtain rfl := HW.out
        have hx := itN_lt (show k < 4294967296 by omega) r
        obtain ⟨x, hxe⟩ : ∃ x, itN r k = x := ⟨_, rfl⟩
        rw [hxe] at hx ⊢
        have Hx := Lib.hid hxe
        have x1 : (x : Int) ≤ 4294967295 := by omega
        clear hxe
        by_cases hr : r < 8
        · have b2 : (r : Int) < 8 := by omega
          have ha := and1_u32 x hx
          have hsx : itN (r + 1) k = stepN x := by rw [← Hx.out]; rfl
          by_cases ho : x % 2 = 1
          · have hb : (bits .and .u32 (x : Int) 1 == 1) = true := by rw [ha]; simpa using ho
            have He := Lib.hid (show (itN (r + 1) k : Int) = bits .xor .u32 ((x : Int) / 2) 3988292384 by rw [hsx]; exact step_odd hx ho)
            clear ha hsx ho
            go_wp2_with fail
            go_roundg (gk - 1)
            case measure => omega
            case rel => exact ⟨r + 1, by omega, by omega, num_u32 He.out.symm, by go_num, rfl⟩
          · have hb : (bits .and .u32 (x : Int) 1 == 1) = false := by rw [ha]; simpa using ho
            have He := Lib.hid (show (itN (r + 1) k : Int) = (x : Int) / 2 by rw [hsx]; exact step_even ho)
            clear ha hsx ho
            go_wp2_with fail
            go_roundg (gk - 1)
            case measure => omega
            case rel => exact ⟨r + 1, by omega, by omega, num_u32 He.out.symm, by go_num, rfl⟩
        · obtain rfl : r = 8 := by omega
          have b2 : ¬ ((8 : Nat) : Int) < 8 := by omega
          have c1 : ∃ v, wr.cell? ⟨b, k, none⟩ = some v := ⟨_, (hS.pt_cell k).trans (Array.getElem?_eq_getElem (by rw [Hs.out]; exact hlt))⟩
          obtain ⟨v, c1⟩ := c1
          have f1 := hS.pt_free k
          go_wp2_with fail
          have h2 := hS.set (j := k) (.int .u32 (x : Int))
          go_roundg (gO - 1)
          case measure => omega
          case rel =>
            refine ⟨k + 1, cs.setIfInBounds k (.int .u32 (x : Int)), by omega, by omega, by rw [Array.size_setIfInBounds]; exact Hs.out, fun j hj => ?_, by go_num, h2⟩
            rw [Array.getElem?_setIfInBounds]
            by_cases hjk : k = j
            · subst hjk
              rw [if_pos rfl, if_pos (by rw [Hs.out]; exact hlt), ← itN_tab, Hx.out]
            · rw [if_neg hjk]; exact Hc.out j (by omega)
    · obtain rfl : k = 256 := by omega
      have b1 : ¬ ((256 : Nat) : Int) < 256 := by omega
      go_wp2_with fail
      go_ret
      exact ⟨b, rfl, cs, Hc.out, hS⟩
/-- A register takes a byte. -/
theorem reg_eq {x : Nat} (hx : x < 4294967296) (c : UInt8) : (regN x c : Int) = bits .xor .u32 ((x : Int) / 256) ((tabN ((x % 256) ^^^ c.toNat) : Nat) : Int) := by
  have e : (x : Int) / 256 = ((x / 256 : Nat) : Int) := by omega
  rw [e, u32_xor_nat _ _ (by omega) (tabN_lt (Nat.lt_trans (low_lt x c) (by omega))), regN, Nat.shiftRight_eq_div_pow]
theorem wrap_u8 (z : Nat) : IntKind.u8.wrap (z : Int) = ((z % 256 : Nat) : Int) := by
  show ((z : Int)) % 256 = _
  omega
theorem low_eq (x : Nat) (c : UInt8) : bits .xor .u8 (((x % 256 : Nat)) : Int) (c.toNat : Int) = (((x % 256) ^^^ c.toNat : Nat) : Int) := u8_xor_nat _ _ (by omega) c.toNat_lt
/-- 'Sum' of two parts. -/
theorem psSum (h : Sat B L w) (v : Value) (a b : Bt) (hr : ∀ w', Sat B L w' → reads w' v 2 [.string (bA' a), .string (bA' b)]) (ha : a.length ≤ 9223372036854775807) (hb : b.length ≤ 9223372036854775807) :
    Calls Tryz.prog 157 #[v] w fun y w' => y = .returned (.int .u32 (sumN (a ++ b) : Int)) ∧ Sat B L w' := by
  have ht := psTable h
  have Hr := Lib.hid hr
  obtain ⟨ad, cc, rfl⟩ : ∃ ad cc, v = .slice ad 2 cc := by obtain ⟨ad, cc, e, _⟩ := hr w h; exact ⟨ad, cc, e⟩
  clear hr h
  go_enter Tryz.func157, Tryz.ntmps157
  go_wp2_with fail
  refine ht.mono ?_
  rintro y w1 ⟨tb, cs, rfl, hcs, h1⟩
  have Hcs := Lib.hid hcs
  clear hcs ht
  go_wp2_with fail
  go_loopg [4, 11] 3 (fun gh v4 v11 wr => ∃ k : Nat, k ≤ 2 ∧ 3 ≤ k + gh ∧ v4 = .int .u32 ((([a, b].take k).flatten.foldl regN 4294967295 : Nat) : Int) ∧ v11 = .int .i64 (k : Int) ∧ Sat B (pt tb (.cells cs 322) :: L) wr)
  case atStart => exact ⟨0, by omega, by omega, rfl, rfl, h1⟩
  case round =>
    obtain ⟨k, hk1, hk2, rfl, rfl, hS⟩ := hrel
    clear h1
    have hx := fold_lt ([a, b].take k).flatten (show 4294967295 < 4294967296 by omega)
    obtain ⟨x, hxe⟩ : ∃ x, ([a, b].take k).flatten.foldl regN 4294967295 = x := ⟨_, rfl⟩
    rw [hxe] at hx ⊢
    have Hx := Lib.hid hxe
    clear hxe
    by_cases hlt : k < 2
    · have b1 : (k : Int) < 2 := by omega
      obtain ⟨t, ht⟩ : ∃ t, [a, b][k]? = some t := ⟨_, List.getElem?_eq_getElem hlt⟩
      have htl : t.length ≤ 9223372036854775807 := by
        have := List.mem_of_getElem? ht
        simp at this
        rcases this with rfl | rfl
        · exact ha
        · exact hb
      obtain ⟨g, o, e0, c0⟩ : ∃ g o, ad = some ⟨g, o, none⟩ ∧ wr.cell? ⟨g, o + k, none⟩ = some (.string (bA' t)) := by
        obtain ⟨ad', cc', e, _, _, _, hc⟩ := Hr.out wr hS.drop
        cases e
        exact hc k _ (by
          have : k = 0 ∨ k = 1 := by omega
          rcases this with rfl | rfl <;> (simp at ht; subst ht; rfl))
      subst e0
      have Ht := Lib.hid ht
      have hts : (bA' t).size = t.length := by simp [ByteArray.size]
      clear ht
      go_wp2_with fail
      obtain ⟨gO, rfl⟩ : ∃ gO, gO = gk := ⟨_, rfl⟩
      go_loopg [4, 17] (t.length + 1) (fun gh v4 v17 wz => ∃ i : Nat, i ≤ t.length ∧ t.length + 1 ≤ i + gh ∧ v4 = .int .u32 (((t.take i).foldl regN x : Nat) : Int) ∧ v17 = .int .i64 (i : Int) ∧ Sat B (pt tb (.cells cs 322) :: L) wz)
      case atStart => exact ⟨0, by omega, by omega, rfl, rfl, hS⟩
      case round =>
        obtain ⟨i, hi1, hi2, rfl, rfl, hS2⟩ := hrel
        have hz := fold_lt (t.take i) hx
        obtain ⟨z, hze⟩ : ∃ z, (t.take i).foldl regN x = z := ⟨_, rfl⟩
        rw [hze] at hz ⊢
        have Hz := Lib.hid hze
        have z1 : (z : Int) ≤ 4294967295 := by omega
        clear hze hS
        by_cases hlt2 : i < t.length
        · have b2 : (i : Int) < (t.length : Int) := by omega
          have hlt3 : i < (bA' t).size := by rw [hts]; exact hlt2
          obtain ⟨c, hc⟩ : ∃ c, t[i]? = some c := ⟨_, List.getElem?_eq_getElem hlt2⟩
          have hci : (bA' t)[i]'hlt3 = c := by
            rw [List.getElem?_eq_getElem hlt2] at hc
            have := Option.some.inj hc
            rw [← this]
            simp [ByteArray.getElem_eq_getElem_data]
          have hm := low_lt z c
          have hle : bits .xor .u8 (IntKind.u8.wrap (z : Int)) (((bA' t)[i]'hlt3).toNat : Int) = (((z % 256) ^^^ c.toNat : Nat) : Int) := by rw [wrap_u8, hci]; exact low_eq z c
          have Hci := Lib.hid hc
          clear hci hc
          have hre := reg_eq hz c
          obtain ⟨m, hme⟩ : ∃ m, (z % 256) ^^^ c.toNat = m := ⟨_, rfl⟩
          rw [hme] at hm hle hre
          have c1 := (hS2.pt_cell m).trans (Hcs.out m hm)
          have m1 : (m : Int) < 256 := by omega
          clear hme
          have Hre := Lib.hid hre
          clear hre
          go_wp2_with fail
          go_quiet (fail)
          go_wp2_with fail
          go_roundg (gk - 1)
          case measure => omega
          case rel =>
            refine ⟨i + 1, by omega, by omega, num_u32 ?_, by go_num, hS2.drewN _⟩
            have e : t.take (i + 1) = t.take i ++ [c] := by rw [List.take_succ, Hci.out]; rfl
            rw [e, List.foldl_append, Hz.out]
            exact Hre.out.symm
        · obtain rfl : i = t.length := by omega
          have b2 : ¬ (t.length : Int) < (t.length : Int) := by omega
          go_wp2_with fail
          go_roundg (gO - 1)
          case measure => omega
          case rel =>
            refine ⟨k + 1, by omega, by omega, num_u32 ?_, by go_num, hS2⟩
            have e : [a, b].take (k + 1) = [a, b].take k ++ [t] := by rw [List.take_succ, Ht.out]; rfl
            rw [e, List.flatten_append, List.foldl_append, Hx.out, ← Hz.out, List.take_length]
            simp
    · obtain rfl : k = 2 := by omega
      have b1 : ¬ ((2 : Nat) : Int) < 2 := by omega
      have hfin : (sumN (a ++ b) : Int) = bits .xor .u32 4294967295 (x : Int) := by
        have e : a ++ b = ([a, b].take 2).flatten := by simp
        rw [sumN, e, Hx.out]
        exact (u32_xor_nat 4294967295 x (by omega) hx).symm
      have Hf := Lib.hid hfin
      clear hfin
      go_wp2_with fail
      go_ret
      exact ⟨by rw [Hf.out]; rfl, hS.drop⟩
end
end Go.Proofs.YtajoljoegbeiiaaGreatDoor
