/-
  A slice of strings that came in, as the separation logic reads it.
-/
import Derived.Test.YtgccdndlpjbkhaaReadRow
import Derived.Test.YtgccdndlpjbkhaaBloom6
namespace Go.Proofs.Ytgccdndlpjbkhaa
open Go.RowKit Go.ChangeAt Go.ChangeShapes Go.Deep
theorem strs_flat (ks : List ByteArray) : ks.flatMap (fun s => [Value.string s]) = strs ks := by
  induction ks with
  | nil => rfl
  | cons s ks ih => rw [List.flatMap_cons, ih]; rfl
theorem strs_of_trod {H : Type} {enc : TypeId × Value → H} {P : Program} {w : World} {base : Nat} {held : Bool} {t e : TypeId} {a : Option Addr} {len cap : Nat} {d : DataW H} {ps : List MemPlace}
    (ht : P.underlying t = some (.slice e)) (he : P.underlying e = some .string) (hc : P.cellsOf e = 1) (h : DataW.Trod enc P w base (fun _ => true) held t (.slice a len cap) d ps) :
    ∃ ks : List ByteArray, ks.length = len ∧ (∀ s ∈ ks, s.size ≤ 9223372036854775807) ∧ reads w (.slice a len cap) len (strs ks) := by
  obtain ⟨fuel, hf⟩ := h
  have hf' : DataW.trod enc P w base (fun _ => true) held fuel t [.slice a len cap] = some (d, ps) := by simpa [Value.cells] using hf
  obtain ⟨xs, h1, h2, h3⟩ := reads_of_slice (size := 1) ht hc (by decide) (fun s : ByteArray => [Value.string s]) (fun s => s.size ≤ 9223372036854775807) (fun n cs y hl hy => by
    obtain ⟨s, h1, _, h3⟩ := DataW.trod_string he hy
    exact ⟨s, h1, by simpa [maxLen] using h3⟩) hf'
  rw [strs_flat] at h2
  exact ⟨xs, h1, h3, h2⟩
end Go.Proofs.Ytgccdndlpjbkhaa
