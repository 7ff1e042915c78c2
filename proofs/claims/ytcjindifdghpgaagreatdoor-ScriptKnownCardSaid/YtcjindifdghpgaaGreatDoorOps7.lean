/-
  script.Op: contract.
-/
import Derived.Test.YtcjindifdghpgaaGreatDoorOps6
import Derived.Test.YtcjindifdghpgaaGreatDoorScrC
namespace Go.Proofs.YtcjindifdghpgaaGreatDoor
set_option linter.all false
open Go.RowKit
section
variable {B w : World} {L : List HP}
abbrev zOp : Obj := .cells (opC 0 (bA []) (bA []) (bA []) false (bA [])) 42
/-- What guarded leaves of Op's closure. -/
def oleft (b1 b2 b4 : Nat) (s : ByteArray) (L : List HP) (o : Option Int) (L' : List HP) : Prop :=
  (o = none ∧ ∃ k r c v has e, readW (splL 32 s.data.toList) = some (k, r, c, v, has, e) ∧ L' = pt b4 (.cells (opC k (bA r) (bA c) (bA v) has (bA e)) 42) :: pt b2 zOp :: pt b1 (.cells #[.string s] 9) :: L) ∨
  (o = some 15 ∧ readW (splL 32 s.data.toList) = none ∧ L' = pt b4 zOp :: pt b2 zOp :: pt b1 (.cells #[.string s] 9) :: L)
set_option maxHeartbeats 1000000 in
set_option maxRecDepth 100000 in
theorem popen (hE : Env B) (hF : EnvF B) (s : ByteArray) (hs : s.size ≤ 2000000) (b1 b2 b4 e0 : Nat) (h : Sat B (pt e0 (.cells #[.int .i64 0] 29) :: pt b4 zOp :: pt b2 zOp :: pt b1 (.cells #[.string s] 9) :: L) w) :
    Calls Tryz.prog 40 #[.pointer (some ⟨b1, 0, none⟩), .pointer (some ⟨b4, 0, none⟩)] w fun y w' => ∃ (o : Option Int) (L' : List HP), endsAs o y ∧ oleft b1 b2 b4 s L o L' ∧ Sat B (pt e0 (.cells #[.int .i64 0] 29) :: L') w' := by
  have c1 : w.cell? ⟨b1, 0, none⟩ = some (.string s) := h.p3.pt_cell 0
  have hr := pread hE hF s hs h
  go_enter Tryz.func40, Tryz.ntmps40
  go_wp2_with fail
  refine hr.mono ?_
  rintro y w2 ⟨⟨k, r, c, v, has, e, ho, rfl⟩ | ⟨ho, rfl⟩, h2⟩
  · have h3 := h2.swap
    have Ho := Lib.hid ho
    clear hr h ho
    go_wp2_with ((with_reducible change wpList _ _ _ ({ dst := _, op := Op.store _ (.tmp 1) _, type := _, pos := _, after := _, guard := _ } :: _) _ _); (refine wpList_store_all (vs := opC k (bA r) (bA c) (bA v) has (bA e)) rfl (.tmp 1) _ rfl rfl rfl (by kernel_rfl) h3 rfl (by simp [Value.oneCell']) ?_); intro w8 h8; go_frame)
    exact bodyPost_end (results_none rfl _ _ _) rfl ⟨none, _, rfl, .inl ⟨rfl, k, r, c, v, has, e, Ho.out, rfl⟩, h8.swap⟩
  · exact ⟨rfl, some 15, _, rfl, .inr ⟨rfl, ho, rfl⟩, h2⟩
/-- What Op answers. -/
def opOut (s : Bs) (B : World) (L : List HP) (y : Ending) (w' : World) : Prop :=
  (∃ k r c v has e, readW (splL 32 s) = some (k, r, c, v, has, e) ∧ y = .returned (.tuple #[.agg (opC k (bA r) (bA c) (bA v) has (bA e)), .nilIface]) ∧ Sat B L w') ∨
  (readW (splL 32 s) = none ∧ ∃ p, y = .returned (.tuple #[.agg (opC 0 (bA []) (bA []) (bA []) false (bA [])), .iface 36 (.pointer (some ⟨p, 0, none⟩))]) ∧ Sat B (pt p (.cells #[.int .i64 15, .int .i64 0] 40) :: L) w')
set_option maxHeartbeats 2000000 in
set_option maxRecDepth 100000 in
theorem pOp (hE : Env B) (hF : EnvF B) (s : ByteArray) (hs : s.size ≤ 2000000) (h : Sat B L w) : Calls Tryz.prog 11 #[.string s] w (opOut s.data.toList B L) := by
  have h1 : Sat B (pt (w.heap.size + 1 + 1) zOp :: pt (w.heap.size + 1) zOp :: pt w.heap.size (.cells #[.string s] 9) :: L) (((w.alloc (.cells #[.string s] 9)).alloc zOp).alloc zOp) :=
    ((h.alloc' (.cells #[.string s] 9) (n := w.heap.size) rfl).alloc' zOp (n := w.heap.size + 1) (by simp)).alloc' zOp (n := w.heap.size + 1 + 1) (by simp)
  have hg := pguarded 40 #[.pointer (some ⟨w.heap.size, 0, none⟩), .pointer (some ⟨w.heap.size + 1 + 1, 0, none⟩)] (oleft w.heap.size (w.heap.size + 1) (w.heap.size + 1 + 1) s L) h1 (fun _ => by kernel_rfl) fun w1 h' => popen hE hF s hs _ _ _ _ h'
  clear h1
  go_enter Tryz.func11, Tryz.ntmps11
  go_wp2_with fail
  refine hg.mono ?_
  rintro y w2 ⟨o, L', rfl, ⟨rfl, k, r, c, v, has, e, ho, rfl⟩ | ⟨rfl, ho, rfl⟩, h2⟩
  · have Ho := Lib.hid ho
    have p4 := h2.pt_cell
    have q0 := p4 0; have q1 := p4 1; have q2 := p4 2; have q3 := p4 3; have q4 := p4 4; have q5 := p4 5
    simp only [List.getElem?_toArray, List.getElem?_cons_zero, List.getElem?_cons_succ] at q0 q1 q2 q3 q4 q5
    have h3 := h2.swap
    clear hg ho p4 h
    go_wp2_with ((with_reducible change wpList _ _ _ ({ dst := _, op := Op.store _ (.tmp 2) _, type := _, pos := _, after := _, guard := _ } :: _) _ _); (refine wpList_store_all (vs := opC k (bA r) (bA c) (bA v) has (bA e)) rfl (.tmp 2) _ rfl rfl rfl (by kernel_rfl) h3 rfl (by simp [Value.oneCell']) ?_); intro w8 h8; have p6 := h8.pt_cell; have z0 := p6 0; have z1 := p6 1; have z2 := p6 2; have z3 := p6 3; have z4 := p6 4; have z5 := p6 5; simp only [List.getElem?_toArray, List.getElem?_cons_zero, List.getElem?_cons_succ] at z0 z1 z2 z3 z4 z5; clear p6; go_frame)
    exact bodyPost_ret (v := .tuple #[.agg (opC k (bA r) (bA c) (bA v) has (bA e)), .nilIface]) (by simp [results, Tryz.results11, go_sem, z0, z1, z2, z3, z4, z5]) rfl (.inl ⟨k, r, c, v, has, e, Ho.out, rfl, h8.drop.drop.drop⟩)
  · have Ho := Lib.hid ho
    have h3 := (h2.alloc' (.cells #[.int .i64 15, .int .i64 0] 40) (n := w2.heap.size) rfl).p2
    clear hg ho h
    go_wp2_with ((with_reducible change wpList _ _ _ ({ dst := _, op := Op.store _ (.tmp 2) _, type := _, pos := _, after := _, guard := _ } :: _) _ _); (refine wpList_store_all (vs := opC 0 (bA []) (bA []) (bA []) false (bA [])) rfl (.tmp 2) _ rfl rfl rfl (by kernel_rfl) h3 rfl (by simp [Value.oneCell']) ?_); intro w8 h8; have p6 := h8.pt_cell; have z0 := p6 0; have z1 := p6 1; have z2 := p6 2; have z3 := p6 3; have z4 := p6 4; have z5 := p6 5; simp only [List.getElem?_toArray, List.getElem?_cons_zero, List.getElem?_cons_succ] at z0 z1 z2 z3 z4 z5; clear p6; go_frame)
    exact bodyPost_ret (v := .tuple #[.agg (opC 0 (bA []) (bA []) (bA []) false (bA [])), .iface 36 (.pointer (some ⟨w2.heap.size, 0, none⟩))]) (by simp [results, Tryz.results11, go_sem, z0, z1, z2, z3, z4, z5]) rfl (.inr ⟨Ho.out, _, rfl, h8.drop.swap.drop.swap.drop⟩)
end
end Go.Proofs.YtcjindifdghpgaaGreatDoor
