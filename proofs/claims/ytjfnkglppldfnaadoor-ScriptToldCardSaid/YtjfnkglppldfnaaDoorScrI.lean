/-
  Script: errors.Is at a Fault and its own number.
-/
import Derived.Test.YtjfnkglppldfnaaDoorScrE
namespace Go.Proofs.YtjfnkglppldfnaaDoor
open Go.RowKit Go.Extern.Stop Go.Stop Go.Extern
theorem iTypeOf (v : Value) (w : World) : (Extern.ReflectliteType.typeOf #[.iface 25 v]).run Tryd.prog w = .ok (.iface 89 (.agg #[.pointer (some ⟨9, 25, none⟩)])) w := by kernel_rfl
theorem iComparable (w : World) : ((Extern.ReflectliteType.method fun t => do Extern.Rtype.noPackHeld "Comparable" t; (fun a => Value.bool a.comparable) <$> typeInfo t) #[.agg #[.pointer (some ⟨9, 25, none⟩)]]).run Tryd.prog w = .ok (.bool true) w := by kernel_rfl
theorem iMethodComparable (v : Value) (w : World) : (Go.method 272 89 v "Comparable").run Tryd.prog w = .ok (107, v) w := by kernel_rfl
theorem iNoIs (v : Value) (xT : TypeId) (w : World) : (Instr.typeAssert (.iface 35 v) xT 101 true).run Tryd.prog w = .ok (.tuple #[.nilIface, .bool false]) w := run_typeAssert_lacksB Tryd.underlying101 (by kernel_rfl) (by kernel_rfl) v xT w
theorem iHasUnwrap (v : Value) (xT : TypeId) (w : World) : (Instr.typeAssert (.iface 35 v) xT 96 true).run Tryd.prog w = .ok (.tuple #[.iface 35 v, .bool true]) w := run_typeAssert_hasB Tryd.underlying96 (by kernel_rfl) v xT w
theorem iMethodUnwrap (v : Value) (w : World) : (Go.method 272 35 v "Unwrap").run Tryd.prog w = .ok (100, v) w := by kernel_rfl
theorem iEq15 (w : World) : (binOp BinOp.eql 32 (.iface 25 (.int .i64 15)) (.iface 25 (.int .i64 15))).run Tryd.prog w = .ok (.bool true) w := by kernel_rfl
theorem iEq3 (w : World) : (binOp BinOp.eql 32 (.iface 25 (.int .i64 3)) (.iface 25 (.int .i64 3))).run Tryd.prog w = .ok (.bool true) w := by kernel_rfl
theorem iEq (c : Int) (hc : c = 15 ∨ c = 3) (w : World) : (binOp BinOp.eql 32 (.iface 25 (.int .i64 c)) (.iface 25 (.int .i64 c))).run Tryd.prog w = .ok (.bool true) w := by
  rcases hc with rfl | rfl
  · exact iEq15 w
  · exact iEq3 w
section
variable {B w : World} {L : List HP}
set_option maxHeartbeats 4000000 in
set_option maxRecDepth 100000 in
theorem pis (c i : Int) (hc : c = 15 ∨ c = 3) (p : Nat) (h : Sat B (pt p (.cells #[.int .i64 c, .int .i64 i] 39) :: L) w) :
    Calls Tryd.prog 11 #[.iface 35 (.pointer (some ⟨p, 0, none⟩)), .iface 25 (.int .i64 c)] w fun e w' => e = .returned (.bool true) ∧ w' = w := by
  have h8 := @run_callFunc_extern Tryd.prog 31 _ Extern.ReflectliteType.typeOf Tryd.func31 (by kernel_rfl) (by kernel_rfl) (by kernel_rfl) (by kernel_rfl)
  have h32 := @run_callFunc_extern Tryd.prog 107 _ (Extern.ReflectliteType.method fun t => do Extern.Rtype.noPackHeld "Comparable" t; pure (.bool (← typeInfo t).comparable)) Tryd.func107 (by kernel_rfl) (by kernel_rfl) (by kernel_rfl) (by kernel_rfl)
  have tT := iTypeOf
  have cT := iComparable
  have mR := iMethodComparable
  have nE := iNoIs
  have uW := iHasUnwrap
  have mU := iMethodUnwrap
  have heq := iEq c hc
  have hty := run_eql_iface_types (P := Tryd.prog) 35 25 (.pointer (some ⟨p, 0, none⟩)) (.int .i64 c) Tryd.underlying32 (by decide) w
  have c0 : w.cell? ⟨p, 0, none⟩ = some (.int .i64 c) := h.pt_cell 0
  clear h hc
  go_enter Tryd.func11, Tryd.ntmps11
  go_wp2
  refine wp_loop_rounds 2 ?_
  rw [rounds_succ]
  go_wp2
  rw [rounds_succ]
  go_wp2
  go_ret
  exact ⟨rfl, rfl⟩
end
end Go.Proofs.YtjfnkglppldfnaaDoor
