/-
  What came in, as the separation logic reads it: a row of bytes. What came in, as the separation logic reads it: a slice of structs (or of strings) of one-cell fields. Wal: what comes in: a slice of texts, two numbers.
-/
import Derived.Test.YtdngjkjoahgelaaGreatDoorSlA
import Derived.ProofKit
import Derived.Deep.Slices
import Derived.Lib.SmallJoins
import Derived.Test.YtdngjkjoahgelaaGreatDoorRows
import Derived.Lib.LaidTab
import Derived.Stop.LaidErr
namespace Go.Proofs.YtdngjkjoahgelaaGreatDoor
open Go.RowKit

end Go.Proofs.YtdngjkjoahgelaaGreatDoor

namespace Go.Proofs.YtdngjkjoahgelaaGreatDoor
open Go.RowKit Go.ChangeAt Go.ChangeShapes Go.Deep

theorem flatMap_get {α : Type} {R : α → List Value} {size : Nat} : ∀ (xs : List α), (∀ x ∈ xs, (R x).length = size) → ∀ (k : Nat) (u : Value), (xs.flatMap R)[k]? = some u → ∃ i j x, xs[i]? = some x ∧ (R x)[j]? = some u ∧ k = i * size + j ∧ j < size
  | [], _, k, u, h => by simp at h
  | x :: xs, hl, k, u, h => by
    have hx := hl x (by simp)
    simp only [List.flatMap_cons] at h
    by_cases hk : k < size
    · rw [List.getElem?_append_left (by omega)] at h
      exact ⟨0, k, x, rfl, h, by omega, hk⟩
    · rw [List.getElem?_append_right (by omega), hx] at h
      obtain ⟨i, j, y, h1, h2, h3, h4⟩ := flatMap_get xs (fun y hy => hl y (by simp [hy])) _ _ h
      exact ⟨i + 1, j, y, by simpa using h1, h2, by rw [Nat.add_mul, Nat.one_mul]; omega, h4⟩

/-- A slice that came in: each element's cells by 'R', with what else is known of it. -/
theorem reads_of_slice {H : Type} {enc : TypeId × Value → H} {P : Program} {w : World} {base : Nat} {held : Bool} {t e : TypeId} {size fuel : Nat} {a : Option Addr} {len cap : Nat} {x : DataW H × List MemPlace}
    (ht : P.underlying t = some (.slice e)) (hc : P.cellsOf e = size) (hs : 0 < size) {α : Type} (R : α → List Value) (Φ : α → Prop)
    (hR : ∀ n cs y, cs.length = size → DataW.trod enc P w base (fun _ => true) held n e cs = some y → ∃ z : α, cs = R z ∧ Φ z)
    (h : DataW.trod enc P w base (fun _ => true) held fuel t [.slice a len cap] = some x) :
    ∃ xs : List α, xs.length = len ∧ reads w (.slice a len cap) len (xs.flatMap R) ∧ ∀ z ∈ xs, Φ z := by
  rcases open_slice ht h with ⟨hcs, _⟩ | ⟨b, l, c, m, n, D, Pl, hcs, hb, hl, hm, hmm, _, hx⟩
  · simp at hcs
    obtain ⟨rfl, rfl, rfl⟩ := hcs
    exact ⟨[], rfl, ⟨none, 0, rfl, fun _ => ⟨rfl, rfl⟩, Nat.le_refl _, Nat.zero_le _, fun j u e => by simp at e⟩, fun z hz => by simp at hz⟩
  · simp at hcs
    obtain ⟨rfl, rfl, rfl⟩ := hcs
    rw [if_pos rfl] at hmm
    subst hmm
    have hall : ∀ i, i < len → ∃ z : α, w.cells? base (b.add (i * size)) size = some (R z) ∧ Φ z := fun i hi => by
      obtain ⟨cs', h1, h2⟩ := hx i (by omega)
      rw [hc] at h1
      obtain ⟨_, hlen, _⟩ := World.cells?_some h1
      obtain ⟨z, rfl, hz⟩ := hR _ _ _ hlen h2
      exact ⟨z, h1, hz⟩
    have key : ∀ k, k ≤ len → ∃ xs : List α, xs.length = k ∧ (∀ i z, xs[i]? = some z → w.cells? base (b.add (i * size)) size = some (R z)) ∧ ∀ z ∈ xs, Φ z := by
      intro k
      induction k with
      | zero => exact fun _ => ⟨[], rfl, fun i z e => by simp at e, fun z hz => by simp at hz⟩
      | succ k ih =>
        intro hk
        obtain ⟨xs, h1, h2, h3⟩ := ih (by omega)
        obtain ⟨z, hz1, hz2⟩ := hall k (by omega)
        refine ⟨xs ++ [z], by simp [h1], fun i y e => ?_, fun y hy => ?_⟩
        · rcases Nat.lt_trichotomy i k with hik | hik | hik
          · rw [List.getElem?_append_left (by omega)] at e
            exact h2 i y e
          · subst hik
            rw [List.getElem?_append_right (by omega), h1, Nat.sub_self] at e
            cases e
            exact hz1
          · rw [List.getElem?_append_right (by omega), h1] at e
            have := (List.getElem?_eq_some_iff.1 e).1
            simp at this; omega
        · rcases List.mem_append.1 hy with hy | hy
          · exact h3 y hy
          · simp at hy; subst hy; exact hz2
    obtain ⟨xs, h1, h2, h3⟩ := key len (Nat.le_refl _)
    refine ⟨xs, h1, ⟨some b, _, rfl, (fun e => by cases e), hl, hm, fun k u hu => ?_⟩, h3⟩
    have hlen : ∀ z ∈ xs, (R z).length = size := fun z hz => by
      obtain ⟨i, hi⟩ := List.getElem?_of_mem hz
      exact (World.cells?_some (h2 i z hi)).2.1
    obtain ⟨i, j, z, e1, e2, rfl, hj⟩ := flatMap_get xs hlen k u hu
    have h4 := (World.cells?_some (h2 i z e1)).2.2 j hj
    rw [e2] at h4
    have hbb : b = ⟨b.block, b.off, none⟩ := by
      have hx0 : 0 < xs.length := Nat.lt_of_le_of_lt (Nat.zero_le _) (List.getElem?_eq_some_iff.1 e1).1
      have h0 := (World.cells?_some (h2 0 xs[0] (List.getElem?_eq_getElem hx0))).2.2 0 hs
      have hl0 := hlen xs[0] (List.getElem_mem _)
      rw [Nat.zero_mul, show (b.add 0).add 0 = b from rfl, List.getElem?_eq_getElem (by omega)] at h0
      obtain ⟨bl, o, sp⟩ := b
      cases sp with
      | none => rfl
      | some s =>
        simp only [World.cell?] at h0
        split at h0 <;> simp at h0
    refine ⟨b.block, b.off, by rw [← hbb], ?_⟩
    rw [hbb, addr_add, addr_add] at h4
    rw [Nat.add_assoc] at h4
    exact h4
end Go.Proofs.YtdngjkjoahgelaaGreatDoor

namespace Go.Proofs.YtdngjkjoahgelaaGreatDoor
set_option linter.all false
open Go.Joins Go.ChangeShapes Go.WideShapes Go.RowKit Go.Deep Go.ChangeAt
section
variable {H : Type} {enc : TypeId × Value → H} {P : Program} {w : World} {base : Nat} {spare : Nat → Bool} {held : Bool}
theorem trod_arr {t e : TypeId} {n fuel : Nat} {cs : List Value} {x : DataW H × List MemPlace} (ht : P.underlying t = some (.array n e)) (hce : P.cellsOf e = 1)
    (h : DataW.trod enc P w base spare held fuel t cs = some x) :
    ∃ (xs : List (DataW H × List MemPlace)) (m : Nat), xs.length = n ∧ ∀ i, i < n → DataW.trod enc P w base spare held m e ((cs.drop i).take 1) = xs[i]? := by
  cases fuel with
  | zero => simp [DataW.trod] at h
  | succ m =>
    unfold DataW.trod at h
    rw [ht] at h
    have h2 := h
    simp only at h2
    split at h2
    · simp only [Option.map_eq_some_iff] at h2
      obtain ⟨xs, hp, hd⟩ := h2
      refine ⟨xs, m, by simpa using mapM_some_length hp, fun i hi => ?_⟩
      have := mapM_some_get hp i i (by simp [hi])
      simpa [hce] using this
    · cases h2
theorem cellsInt : Tryz.prog.cellsOf 3 = 1 := by kernel_rfl
theorem i64_in {z : Int} (h : (Lit.int .i64 z).wf = true) : -9223372036854775808 ≤ z ∧ z ≤ 9223372036854775807 := by
  simpa [Lit.wf, IntKind.wrap, IntKind.min, IntKind.max, IntKind.signed, IntKind.bits] using h
end
end Go.Proofs.YtdngjkjoahgelaaGreatDoor
