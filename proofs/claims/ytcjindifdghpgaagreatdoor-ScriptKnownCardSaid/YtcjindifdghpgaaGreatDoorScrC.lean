/-
  Script: guarded: what is given up is caught and handed back.
-/
import Derived.Test.YtcjindifdghpgaaGreatDoorScrB
import Derived.Defers
import Derived.Recover
namespace Go.Proofs.YtcjindifdghpgaaGreatDoor
open Go.RowKit
section
variable {B w : World} {L : List HP}
theorem catch_idle (p : Addr) (w : World) :
    CallsD Tryz.prog 57 #[.pointer (some p)] .returning w fun e u' w' => e = .returned (.tuple #[]) ∧ u' = .returning ∧ w' = w := by
  refine callsD_of_wpS Tryz.func57 rfl fun c₀ cs hu => ?_
  apply wpS_seq
  apply wpS_region
  simp [wpOpsS, go_sem, recoverD, hu, Tryz.ntmps57, Exit.thenS]
  apply wpS_seq
  apply wpS_region
  simp [wpOpsS, go_sem, Exit.thenS]
  refine wpS_cond (t := false) (by simp [Act.eval, Array.replicate]) ?_
  simp only [Bool.false_eq_true, if_false]
  refine wpS_of_wp (wp_skip ?_)
  cases c₀
  simp_all [bodyPostS, results, Tryz.results57]
set_option maxHeartbeats 2000000 in
set_option maxRecDepth 100000 in
theorem catch_gave (c x : Int) (p : Nat) (older : List PanicEntry) (h : Sat B (pt p (.cells #[.int .i64 x] 29) :: L) w) :
    CallsD Tryz.prog 57 #[.pointer (some ⟨p, 0, none⟩)] (.panicking ({ v := gave c, recovered := false } :: older)) w fun e u' w' =>
      e = .returned (.tuple #[]) ∧ u' = .panicking ({ v := gave c, recovered := true } :: older) ∧ Sat B (pt p (.cells #[.int .i64 c] 29) :: L) w' := by
  have hta : ∀ w : World, (Instr.typeAssert (gave c) 20 108 true).run Tryz.prog w = .ok (.tuple #[.agg #[.int .i64 c], .bool true]) w := fun _ => by kernel_rfl
  have h2 := (h.alloc' (.cells #[.int .i64 c] 108) (n := w.heap.size) rfl).swap
  have c2 : (w.alloc (.cells #[.int .i64 c] 108)).cell? ⟨p, 0, none⟩ = some (.int .i64 x) := h2.pt_cell 0
  have f2 : (w.alloc (.cells #[.int .i64 c] 108)).frozen? ⟨p, 0, none⟩ = false := h2.pt_free 0
  have h3 : Sat B (pt p (.cells #[.int .i64 c] 29) :: pt w.heap.size (.cells #[.int .i64 c] 108) :: L) ((w.alloc (.cells #[.int .i64 c] 108)).setCell ⟨p, 0, none⟩ (.int .i64 c)) := h2.set (j := 0) (.int .i64 c)
  refine callsD_of_wpS Tryz.func57 rfl fun c₀ cs hu => ?_
  apply wpS_seq
  apply wpS_region
  simp [wpOpsS, go_sem, recoverD, hu, Tryz.ntmps57, Exit.thenS]
  apply wpS_seq
  apply wpS_region
  simp [wpOpsS, go_sem, Exit.thenS]
  refine wpS_cond (t := true) (by simp [Act.eval, Array.replicate]) ?_
  simp only [if_true]
  refine wpS_of_wp ?_
  refine Code.wp_mono (Q := fun e a w' => (e = .normal ∧ a.defers = []) ∧ Sat B (pt p (.cells #[.int .i64 c] 29) :: L) w') ?_ ?_
  · rintro e a w' ⟨⟨rfl, hd⟩, hS⟩
    cases c₀
    simp_all [bodyPostS, results, Tryz.results57]
  show Code.wp _ _ _ { tmps := #[.pointer (some ⟨p, 0, none⟩), gave c, undef, undef, gave c, gave c, .bool true, undef, undef, undef, undef, undef, undef, undef, undef, undef, undef], defers := [] } w
  clear h
  go_wp2_with fail
  exact h3.swap.drop
/-- How a closure ends: it returns, or gives up. -/
def endsAs : Option Int → Ending → Prop
  | none, y => y = .returned (.tuple #[])
  | some c, y => y = gives c
set_option maxHeartbeats 4000000 in
set_option maxRecDepth 100000 in
/-- What guarded makes of a closure that returns, or gives up. -/
theorem pguarded (f : FuncId) (cap : Array Value) (R : Option Int → List HP → Prop) (h : Sat B L w)
    (hent : ∀ w : World, (callFunc f cap).run Tryz.prog w = .ok (.enter f cap) w)
    (hf : ∀ w1, Sat B (pt w.heap.size (.cells #[.int .i64 0] 29) :: L) w1 → Calls Tryz.prog f cap w1 fun y w' => ∃ (o : Option Int) (L' : List HP), endsAs o y ∧ R o L' ∧ Sat B (pt w.heap.size (.cells #[.int .i64 0] 29) :: L') w') :
    Calls Tryz.prog 27 #[.func (.func f) #[] cap] w fun y w' => ∃ (o : Option Int) (L' : List HP), y = .returned (.int .i64 (o.getD 0)) ∧ R o L' ∧ Sat B L' w' := by
  have hmf : ∀ (fn : Fn) (first cap : Array Value) (w : World), (Instr.makeFunc fn first cap).run Tryz.prog w = .ok (.func fn first cap) w := fun _ _ _ _ => rfl
  have h1 := h.alloc' (.cells #[.int .i64 0] 29) (n := w.heap.size) rfl
  have hc := hf _ h1
  obtain ⟨b, hb⟩ : ∃ b, w.heap.size = b := ⟨_, rfl⟩
  rw [hb] at hc
  clear h h1 hf
  go_enter_defers Tryz.func27, Tryz.ntmps27
  go_wp2_with (first
    | (refine hc.mono ?_; rintro y w2 ⟨o, L', ho, hR, hS⟩; (try rw [hb]); have c2 := hS.pt_cell 0; have f2 := hS.pt_free 0; cases o <;> (first | cases (show _ = _ from ho) | skip)))
  · refine leaves_cons (f := 57) (args := #[.pointer (some ⟨b, 0, none⟩)]) (by simp) (by simp [go_sem]) ?_
    refine (catch_idle ⟨b, 0, none⟩ _).mono ?_
    rintro e u' w'' ⟨rfl, rfl, rfl⟩
    have h5 : Sat B (pt b (.cells #[.int .i64 0] 29) :: L') (w2.setCell ⟨b, 0, none⟩ (.int .i64 0)) := hS.set (j := 0) (.int .i64 0)
    have c5 : (w2.setCell ⟨b, 0, none⟩ (.int .i64 0)).cell? ⟨b, 0, none⟩ = some (.int .i64 0) := h5.pt_cell 0
    simp only [Leaves, settle]
    exact ⟨_, by simp [results, Tryz.results27, go_sem, c5], none, L', rfl, hR, h5.drop⟩
  · skip
    refine leaves_cons (f := 57) (args := #[.pointer (some ⟨b, 0, none⟩)]) (by simp) (by simp [go_sem]) ?_
    refine (catch_gave _ 0 b [] hS).mono ?_
    rintro e u' w'' ⟨rfl, rfl, h5⟩
    have c5 : w''.cell? ⟨b, 0, none⟩ = some _ := h5.pt_cell 0
    simp only [settle, List.dropWhile, Leaves]
    exact ⟨_, by simp [results, Tryz.results27, go_sem, c5], _, L', rfl, hR, h5.drop⟩
end
end Go.Proofs.YtcjindifdghpgaaGreatDoor
