/-
  ops.Cmd at an operation's command; script.right.
-/
import Derived.Test.YtcjindifdghpgaaGreatDoorOps
import Derived.Test.YtcjindifdghpgaaGreatDoorSlStore
import Derived.Deep.RegionHeld3
namespace Go.Proofs.YtcjindifdghpgaaGreatDoor
set_option linter.all false
open Go.RowKit
section
variable {B w : World} {L : List HP}
theorem pbelow (n m : Int) (w : World) : Calls Tryz.prog 85 #[.int .i64 n, .int .i64 m] w fun y w' => y = .returned (.bool (decide (0 ≤ n ∧ n < m))) ∧ w' = w := by
  go_enter Tryz.func85, Tryz.ntmps85
  go_wp2_with fail
  all_goals
    go_ret
    refine ⟨?_, rfl⟩
    congr 2
    simp [*]
    try omega
theorem pnumbered (n : Int) (w : World) : Calls Tryz.prog 86 #[.int .u64 n] w fun y w' => y = .returned (.bool (decide (1 ≤ n ∧ n ≤ 1099511627776))) ∧ w' = w := by
  go_enter Tryz.func86, Tryz.ntmps86
  go_wp2_with fail
  all_goals
    go_ret
    refine ⟨?_, rfl⟩
    congr 2
    simp [*]
    try omega
theorem pok (b : Bool) (w : World) : Calls Tryz.prog 92 #[.bool b] w fun y w' => y = .returned (.int .i64 (if b = true then 0 else 2)) ∧ w' = w := by
  cases b
  all_goals
    go_enter Tryz.func92, Tryz.ntmps92
    go_wp2_with fail
    go_ret
    exact ⟨rfl, rfl⟩
/-- An operation's command. -/
abbrev cmdC (k : Int) (r c v : ByteArray) (has : Bool) (e : ByteArray) : Array Value := #[.int .i64 1, .int .i64 0, .int .u64 1, .int .u64 0, .int .i64 k, .string r, .string c, .string v, .bool has, .string e, .int .u64 0, .int .i64 0, .string ⟨#[]⟩, .string ⟨#[]⟩, .int .i64 0, .bool false, .int .i64 0, .string ⟨#[]⟩, .int .i64 0, .int .i64 0]
set_option maxHeartbeats 4000000 in
set_option maxRecDepth 100000 in
theorem eq_cmd (k : Int) (r c v : ByteArray) (has : Bool) (e : ByteArray) (w : World) : (binOp BinOp.eql 130 (.agg (cmdC k r c v has e)) (.agg (cmdC k r c v has e))).run Tryz.prog w = .ok (.bool true) w := by
  go_simp
abbrev cmdz : Array Value := #[.int .i64 0, .int .i64 0, .int .u64 0, .int .u64 0, .int .i64 0, .string ⟨#[]⟩, .string ⟨#[]⟩, .string ⟨#[]⟩, .bool false, .string ⟨#[]⟩, .int .u64 0, .int .i64 0, .string ⟨#[]⟩, .string ⟨#[]⟩, .int .i64 0, .bool false, .int .i64 0, .string ⟨#[]⟩, .int .i64 0, .int .i64 0]
abbrev cmd0 : Array Value := #[.int .i64 1, .int .i64 0, .int .u64 0, .int .u64 0, .int .i64 0, .string ⟨#[]⟩, .string ⟨#[]⟩, .string ⟨#[]⟩, .bool false, .string ⟨#[]⟩, .int .u64 0, .int .i64 0, .string ⟨#[]⟩, .string ⟨#[]⟩, .int .i64 0, .bool false, .int .i64 0, .string ⟨#[]⟩, .int .i64 0, .int .i64 0]
set_option maxHeartbeats 8000000 in
set_option maxRecDepth 100000 in
theorem pcmd (k : Int) (r c v : ByteArray) (has : Bool) (e : ByteArray) (hS : Sat B L w) :
    Calls Tryz.prog 62 #[.agg (cmdC k r c v has e)] w fun y w' => y = .returned (.int .i64 (if mayOp k r.data.toList c.data.toList v.data.toList has e.data.toList = true then 0 else 2)) ∧ Sat B L w' := by
  have hS0 := (hS.alloc' (.cells (cmdC k r c v has e) 130) (n := w.heap.size) rfl).alloc' (.cells cmdz 130) (n := w.heap.size + 1) (by simp)
  have hck := fun (M : List HP) (w' : World) (h' : Sat B M w') => pcheck k r c v has e h'
  obtain ⟨ok, hok⟩ : ∃ ok, mayOp k r.data.toList c.data.toList v.data.toList has e.data.toList = ok := ⟨_, rfl⟩
  rw [hok] at hck ⊢
  have hbl := fun w' => pbelow 0 4 w'
  have hnb := fun w' => pnumbered 1 w'
  have heq := fun w' => eq_cmd k r c v has e w'
  clear hok
  cases ok
  all_goals
    go_enter Tryz.func62, Tryz.ntmps62
    go_wp2_with ((with_reducible change wpList _ _ _ ({ dst := _, op := Op.store _ (.tmp 3) _, type := _, pos := _, after := _, guard := _ } :: _) _ _); (refine wpList_store_all (vs := cmd0) rfl (.tmp 3) (.tmp 7) rfl rfl rfl (by kernel_rfl) hS0 rfl (by simp [Value.oneCell']) ?_); intro w1 hS2; have z0 := hS2.swap.pt_cell 0; simp only [List.getElem?_toArray, List.getElem?_cons_zero, List.getElem?_cons_succ] at z0; go_frame)
    have hS0 := ‹Sat B (pt (w.heap.size + 1) (.cells cmd0 130) :: _ :: L) _›
    obtain ⟨b1, hb1⟩ : ∃ b1, w.heap.size = b1 := ⟨_, rfl⟩
    rw [hb1] at hS0 ⊢
    have p1 := hS0.swap.pt_cell; have p3 := hS0.pt_cell; have f3 := hS0.pt_free
    have z1 := p1 1; have z2 := p1 2; have z3 := p1 3; have z4 := p1 4; have z5 := p1 5; have z6 := p1 6; have z7 := p1 7; have z8 := p1 8; have z9 := p1 9; have r1 := p3 1; have y1 := f3 1; have r2 := p3 2; have y2 := f3 2; have r3 := p3 3; have y3 := f3 3; have r4 := p3 4; have y4 := f3 4; have r5 := p3 5; have y5 := f3 5; have r6 := p3 6; have y6 := f3 6; have r7 := p3 7; have y7 := f3 7; have r8 := p3 8; have y8 := f3 8; have r9 := p3 9; have y9 := f3 9
    simp only [List.getElem?_toArray, List.getElem?_cons_zero, List.getElem?_cons_succ] at z1 z2 z3 z4 z5 z6 z7 z8 z9 r1 r2 r3 r4 r5 r6 r7 r8 r9
    clear p1 p3 f3 hS
    go_region_held3 (fun w' => w'.cell? ⟨b1, 1, none⟩ = some (.int .i64 0) ∧ w'.cell? ⟨b1, 2, none⟩ = some (.int .u64 1) ∧ w'.cell? ⟨b1, 3, none⟩ = some (.int .u64 0) ∧ w'.cell? ⟨b1, 4, none⟩ = some (.int .i64 k) ∧ w'.cell? ⟨b1, 5, none⟩ = some (.string r) ∧ w'.cell? ⟨b1, 6, none⟩ = some (.string c) ∧ w'.cell? ⟨b1, 7, none⟩ = some (.string v) ∧ w'.cell? ⟨b1, 8, none⟩ = some (.bool has) ∧ w'.cell? ⟨b1, 9, none⟩ = some (.string e)) (go_keep) (fail)
    have hS1 := ((((((((((hS0.set (j := 1) (.int .i64 0)).set (j := 2) (.int .u64 1)).set (j := 3) (.int .u64 0)).set (j := 4) (.int .i64 k)).set (j := 5) (.string r)).set (j := 6) (.string c)).set (j := 7) (.string v)).set (j := 8) (.bool has)).set (j := 9) (.string e))).drew
    clear hS0
    go_wp2_with (first
      | (go_at_call 85; refine (hbl _).mono ?_; rintro y w' ⟨rfl, rfl⟩)
      | (go_at_call 86; refine (hnb _).mono ?_; rintro y w' ⟨rfl, rfl⟩)
      | (go_at_call 87; refine (hck _ _ hS1).mono ?_; rintro y w5 ⟨rfl, h5⟩; have z0 := h5.swap.pt_cell 0; have z3 := h5.swap.pt_cell 3; simp only [List.getElem?_toArray, List.getElem?_cons_zero, List.getElem?_cons_succ] at z0 z3)
      | ((with_reducible change wpList _ _ _ ({ dst := _, op := Op.load _ (.tmp 3), type := _, pos := _, after := _, guard := _ } :: _) _ _); (refine BigFrame.wpList_want rfl (fun K hK => wp_load_row 130 (.tmp 3) rfl (b1 + 1) rfl 130 (cmdC k r c v has e) (0, 0) _ h5.pt_at Tryz.underlying130 rfl (by kernel_rfl) (hK _ _ ?_))); go_frame)
      | ((with_reducible change wpList _ _ _ ({ dst := _, op := Op.load _ (.tmp 1), type := _, pos := _, after := _, guard := _ } :: _) _ _); (refine BigFrame.wpList_want rfl (fun K hK => wp_load_row 130 (.tmp 1) rfl b1 rfl 130 (cmdC k r c v has e) (0, 0) _ h5.swap.pt_at Tryz.underlying130 rfl (by kernel_rfl) (hK _ _ ?_))); go_frame)
      | (go_at_call 92; refine (pok _ _).mono ?_; rintro y w' ⟨rfl, rfl⟩))
    go_ret
    exact ⟨rfl, h5.drop.drop⟩
/-- script.right: may an operation be? -/
theorem pright (k : Int) (r c v : ByteArray) (has : Bool) (e : ByteArray) (hS : Sat B L w) :
    Calls Tryz.prog 36 #[.agg (opC k r c v has e)] w fun y w' => y = .returned (.bool (mayOp k r.data.toList c.data.toList v.data.toList has e.data.toList)) ∧ Sat B L w' := by
  have hS1 := hS.alloc' (.cells (opC k r c v has e) 42) (n := w.heap.size) rfl
  have hc := pcmd k r c v has e hS1
  obtain ⟨ok, hok⟩ : ∃ ok, mayOp k r.data.toList c.data.toList v.data.toList has e.data.toList = ok := ⟨_, rfl⟩
  rw [hok] at hc ⊢
  clear hok
  go_enter Tryz.func36, Tryz.ntmps36
  go_wp2_with (go_at_call 62; refine hc.mono ?_; rintro y w5 ⟨rfl, h5⟩)
  all_goals
    go_ret
    refine ⟨by cases ok <;> simp_all, ?_⟩
    exact h5.drop
end
end Go.Proofs.YtcjindifdghpgaaGreatDoor
