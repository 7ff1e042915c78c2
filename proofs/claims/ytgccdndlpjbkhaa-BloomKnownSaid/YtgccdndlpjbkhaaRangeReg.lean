/-
  A region within a round of a range over a function: the fence's round matters to a deferred call alone; so the region is walked in the plain wide fence.
-/
import Derived.Test.YtgccdndlpjbkhaaRange
namespace Go.Proofs.Ytgccdndlpjbkhaa
open Go.RowKit

def noDefer (ops : Array Oper) : Bool := ops.toList.all fun o => match o.op with | .defer _ => false | _ => true
section
variable {n : Nat} {P : Program} {md : Region.Mode} {ops : Array Oper} {Q : Exit → Act → World → Prop}
theorem noDefer_at (h : noDefer ops = true) {i : Nat} {o : Oper} (hi : ops[i]? = some o) : ∀ c, o.op ≠ .defer c := by
  intro c hc
  have hm : o ∈ ops.toList := by
    have := Array.mem_of_getElem? hi
    simpa using this
  have := List.all_eq_true.1 h o hm
  rw [hc] at this
  cases this
theorem operIn_inRound (l : Nat) {o : Oper} (hd : ∀ c, o.op ≠ .defer c) {a : Act} {w : World} {K : Act → World → Prop} (h : Oper.wpIn Fence.wide n P o a w K Q) : Oper.wpIn (Fence.wide.inRound l) n P o a w K Q := by
  unfold Oper.wpIn at *
  rw [Fence.inRound_round, Oper.semAt_eq _ _ _ hd]
  rw [show Fence.wide.round = none from rfl, Oper.semAt_none] at h
  refine ⟨h.1, ?_⟩
  have h := h.2
  generalize (execOp a.eval o).run P w = r at *
  cases r with
  | ok x w' => cases x <;> exact h
  | halt x w' => cases x <;> exact h
theorem wpAnyIn_inRound (l : Nat) (nd : noDefer ops = true) : ∀ (fuel : Nat) (listed : Array Bool) (a : Act) (w : World), wpAnyIn Fence.wide n P md ops Q fuel listed a w → wpAnyIn (Fence.wide.inRound l) n P md ops Q fuel listed a w
  | 0, _, _, _, h => h
  | fuel + 1, listed, a, w, h => by
    refine ⟨h.1, fun i hi => ?_⟩
    have h2 := wpOpIn_mono (fun a w => wpAnyIn_inRound l nd fuel _ a w) (h.2 i hi)
    unfold wpOpIn at *
    cases ho : ops[i]? with
    | none => rw [ho] at h2; exact h2
    | some o =>
      rw [ho] at h2
      simp only [] at h2 ⊢
      split
      · rename_i hw; rw [if_pos hw] at h2; exact operIn_inRound l (noDefer_at nd ho) h2
      · rename_i hw; rw [if_neg hw] at h2; exact h2
theorem wpIn_region_inRound {id l : Nat} {a : Act} {w : World} (hm : P.follows .mixedOrders = true) (nd : noDefer ops = true)
    (h : wpAnyIn Fence.wide n P .any ops Q ops.size (Array.replicate ops.size false) a w.drew) : (Code.region id ops true).wpIn (Fence.wide.inRound l) n P Q a w :=
  wpIn_region_any hm (wpAnyIn_inRound l nd _ _ _ _ h)
end
end Go.Proofs.Ytgccdndlpjbkhaa
