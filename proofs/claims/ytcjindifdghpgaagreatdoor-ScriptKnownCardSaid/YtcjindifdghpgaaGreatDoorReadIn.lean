/-
  What came in, as the separation logic reads it: a row of bytes.
-/
import Derived.Test.YtcjindifdghpgaaGreatDoorSlA
import Derived.ProofKit
namespace Go.Proofs.YtcjindifdghpgaaGreatDoor
open Go.RowKit

/-- A slice of integers of one kind that came in: nil, or a row of 'cap' cells that hold 'zs', each number of its kind. -/
def IsRow (k : IntKind) (w : World) (a : Option Addr) (len cap : Nat) (zs : List Int) : Prop :=
  (a = none ∧ len = 0 ∧ cap = 0 ∧ zs = []) ∨
  ∃ x, a = some x ∧ len ≤ cap ∧ cap ≤ maxLen ∧ zs.length = cap ∧ (∀ i, i < zs.length → w.cell? (x.add i) = some (.int k (zs.getD i 0))) ∧ ∀ n ∈ zs, (Lit.int k n).wf = true

/-- A row of bytes that came in, as the separation logic reads it. -/
theorem reads_of_row {w : World} {a : Option Addr} {len cap : Nat} {zs : List Int} (h : IsRow .u8 w a len cap zs) : ∃ bs : List UInt8, bs.length = len ∧ reads w (.slice a len cap) len (u8s bs) := by
  rcases h with ⟨rfl, rfl, rfl, rfl⟩ | ⟨x, rfl, hl, hm, hz, hc, hwf⟩
  · exact ⟨[], rfl, _, _, rfl, fun _ => ⟨rfl, rfl⟩, Nat.le_refl _, Nat.zero_le _, fun j u e => by simp [u8s] at e⟩
  · refine ⟨(zs.take len).map fun z => UInt8.ofNat z.toNat, by simp; omega, _, _, rfl, (fun e => by cases e), hl, hm, fun j u e => ?_⟩
    have hj : j < len := by
      have := (List.getElem?_eq_some_iff.1 e).1
      simp [u8s] at this; omega
    have hcj := hc j (by omega)
    have hx : x = ⟨x.block, x.off, none⟩ := by
      have h0 := hc 0 (by omega)
      rw [show x.add 0 = x from rfl] at h0
      obtain ⟨bl, o, sp⟩ := x
      cases sp with
      | none => rfl
      | some s =>
        simp only [World.cell?] at h0
        split at h0 <;> simp at h0
    refine ⟨x.block, x.off, by rw [← hx], ?_⟩
    rw [hx, addr_add] at hcj
    rw [hcj]
    have hzj : zs.getD j 0 = zs[j]'(by omega) := by simp [List.getD, List.getElem?_eq_getElem (show j < zs.length by omega)]
    have hw := hwf (zs[j]'(by omega)) (List.getElem_mem _)
    simp [Lit.wf, IntKind.min, IntKind.max, IntKind.signed, IntKind.bits] at hw
    simp only [u8s, List.getElem?_map, List.getElem?_take, hj, if_true, List.getElem?_eq_getElem (show j < zs.length by omega), Option.map_some] at e
    cases e
    rw [hzj, UInt8.toNat_ofNat']
    congr 2
    omega
end Go.Proofs.YtcjindifdghpgaaGreatDoor
