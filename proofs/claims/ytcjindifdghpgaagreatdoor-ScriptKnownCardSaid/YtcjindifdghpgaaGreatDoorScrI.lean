/-
  Script: errors.Is at a Fault and its own number.
-/
import Derived.Test.YtcjindifdghpgaaGreatDoorScrE
namespace Go.Proofs.YtcjindifdghpgaaGreatDoor
open Go.RowKit Go.Extern.Stop Go.Stop Go.Extern
theorem iTypeOf (v : Value) (w : World) : (Extern.ReflectliteType.typeOf #[.iface 29 v]).run Tryz.prog w = .ok (.iface 114 (.agg #[.pointer (some ⟨12, 29, none⟩)])) w := by kernel_rfl
theorem iComparable (w : World) : ((Extern.ReflectliteType.method fun t => do Extern.Rtype.noPackHeld "Comparable" t; (fun a => Value.bool a.comparable) <$> typeInfo t) #[.agg #[.pointer (some ⟨12, 29, none⟩)]]).run Tryz.prog w = .ok (.bool true) w := by kernel_rfl
theorem iMethodComparable (v : Value) (w : World) : (Go.method 354 114 v "Comparable").run Tryz.prog w = .ok (170, v) w := by kernel_rfl
theorem iNoIs (v : Value) (xT : TypeId) (w : World) : (Instr.typeAssert (.iface 36 v) xT 147 true).run Tryz.prog w = .ok (.tuple #[.nilIface, .bool false]) w := run_typeAssert_lacksB Tryz.underlying147 (by kernel_rfl) (by kernel_rfl) v xT w
theorem iHasUnwrap (v : Value) (xT : TypeId) (w : World) : (Instr.typeAssert (.iface 36 v) xT 121 true).run Tryz.prog w = .ok (.tuple #[.iface 36 v, .bool true]) w := run_typeAssert_hasB Tryz.underlying121 (by kernel_rfl) v xT w
theorem iMethodUnwrap (v : Value) (w : World) : (Go.method 354 36 v "Unwrap").run Tryz.prog w = .ok (163, v) w := by kernel_rfl
theorem iEq15 (w : World) : (binOp BinOp.eql 33 (.iface 29 (.int .i64 15)) (.iface 29 (.int .i64 15))).run Tryz.prog w = .ok (.bool true) w := by kernel_rfl
theorem iEq3 (w : World) : (binOp BinOp.eql 33 (.iface 29 (.int .i64 3)) (.iface 29 (.int .i64 3))).run Tryz.prog w = .ok (.bool true) w := by kernel_rfl
theorem iEq (c : Int) (hc : c = 15 ∨ c = 3) (w : World) : (binOp BinOp.eql 33 (.iface 29 (.int .i64 c)) (.iface 29 (.int .i64 c))).run Tryz.prog w = .ok (.bool true) w := by
  rcases hc with rfl | rfl
  · exact iEq15 w
  · exact iEq3 w
section
variable {B w : World} {L : List HP}
set_option maxHeartbeats 4000000 in
set_option maxRecDepth 100000 in
theorem pis (c i : Int) (hc : c = 15 ∨ c = 3) (p : Nat) (h : Sat B (pt p (.cells #[.int .i64 c, .int .i64 i] 40) :: L) w) :
    Calls Tryz.prog 18 #[.iface 36 (.pointer (some ⟨p, 0, none⟩)), .iface 29 (.int .i64 c)] w fun e w' => e = .returned (.bool true) ∧ w' = w := by
  have h8 := @run_callFunc_extern Tryz.prog 52 _ Extern.ReflectliteType.typeOf Tryz.func52 (by kernel_rfl) (by kernel_rfl) (by kernel_rfl) (by kernel_rfl)
  have h32 := @run_callFunc_extern Tryz.prog 170 _ (Extern.ReflectliteType.method fun t => do Extern.Rtype.noPackHeld "Comparable" t; pure (.bool (← typeInfo t).comparable)) Tryz.func170 (by kernel_rfl) (by kernel_rfl) (by kernel_rfl) (by kernel_rfl)
  have tT := iTypeOf
  have cT := iComparable
  have mR := iMethodComparable
  have nE := iNoIs
  have uW := iHasUnwrap
  have mU := iMethodUnwrap
  have heq := iEq c hc
  have hty := run_eql_iface_types (P := Tryz.prog) 36 29 (.pointer (some ⟨p, 0, none⟩)) (.int .i64 c) Tryz.underlying33 (by decide) w
  have c0 : w.cell? ⟨p, 0, none⟩ = some (.int .i64 c) := h.pt_cell 0
  clear h hc
  go_enter Tryz.func18, Tryz.ntmps18
  go_wp2
  refine wp_loop_rounds 2 ?_
  rw [rounds_succ]
  go_wp2
  rw [rounds_succ]
  go_wp2
  go_ret
  exact ⟨rfl, rfl⟩
end
end Go.Proofs.YtcjindifdghpgaaGreatDoor
