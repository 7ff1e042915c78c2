/-
  A store into a row.
-/
import Derived.Test.YtdngjkjoahgelaaGreatDoorSlMore
namespace Go.Proofs.YtdngjkjoahgelaaGreatDoor
open Go.RowKit
section
variable {B w : World} {L : List HP} {e : TypeId} {size n : Nat} {xs : List Value}
theorem Sat.row_set {g off c : Nat} (h : Sat B (row e size (.slice (some ⟨g, off, none⟩) n c) n xs :: L) w) (j : Nat) (hj : j < n * size) {u : Value} (hu : u.oneCell' = true) :
    Sat B (row e size (.slice (some ⟨g, off, none⟩) n c) n (xs.set j u) :: L) (w.setCell ⟨g, off + j, none⟩ u) := by
  obtain ⟨y, ⟨p, q, hd, hp, hq, hA, hL⟩, h2⟩ := h.own
  obtain ⟨hl, h1, hA⟩ := hA
  rcases hA with ⟨hv, h0⟩ | ⟨g', off', cap, cur, hv, hg, hnc, hm, hs, ht⟩
  · cases hv
  · cases hv
    have hp' : Sat B (pt g (.cells cur e) :: L) w := ⟨h.os, h.tape, h.output, h.size, h.old, y, ⟨p, q, hd, hp, hq, hg, hL⟩, h2⟩
    have hle : n * size ≤ c * size := Nat.mul_le_mul_right _ hnc
    have h3 := hp'.set (j := off + j) u
    refine h3.pt_row n c off _ (by simpa using hl) ?_ hnc hm (by simpa using hs) ?_
    · intro v hv
      rcases List.mem_or_eq_of_mem_set hv with hv | hv
      · exact h1 v hv
      · subst hv; exact hu
    · simp only [Array.toList_setIfInBounds]
      rw [← ht]
      apply List.ext_getElem?
      intro i
      simp only [List.getElem?_take, List.getElem?_drop, List.getElem?_set, List.length_take, List.length_drop, Array.length_toList]
      by_cases hi : i < n * size
      · simp only [hi, if_true]
        by_cases hij : off + j = off + i
        · have hij' : j = i := by omega
          subst hij'
          simp only [if_true]
          rw [if_pos (by omega), if_pos (by omega)]
        · rw [if_neg hij, if_neg (by omega)]
      · simp only [hi, if_false]
        rw [if_neg (by omega)]
/-- What a row's element holds. -/
theorem Sat.row_cell {a : Option Addr} {c : Nat} (h : Sat B (row e size (.slice a n c) n xs :: L) w) (j : Nat) (hj : j < n * size) :
    ∃ g off, a = some ⟨g, off, none⟩ ∧ w.cell? ⟨g, off + j, none⟩ = xs[j]? ∧ w.frozen? ⟨g, off + j, none⟩ = false ∧ g < w.heap.size ∧ (xs[j]?).isSome = true := by
  have hl := h.row_len
  rcases h.row_form with ⟨hv, h0, _⟩ | ⟨g, off, cap, hv, _, _, _, hlt, hc, hf, _⟩
  · subst h0; omega
  · cases hv
    obtain ⟨u, hu⟩ : ∃ u, xs[j]? = some u := ⟨_, List.getElem?_eq_getElem (by omega)⟩
    exact ⟨g, off, rfl, by rw [hc j u hu, hu], hf _, hlt, by rw [hu]; rfl⟩
end
end Go.Proofs.YtdngjkjoahgelaaGreatDoor
