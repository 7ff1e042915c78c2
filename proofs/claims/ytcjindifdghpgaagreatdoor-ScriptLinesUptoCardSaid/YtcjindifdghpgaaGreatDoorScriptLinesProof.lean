/-
  Proved: whatever input acreage's law ScriptLines is called with (of bulk at most 1048576), it returns true and each argument reads afterwards as it read before; the package variables that the row lists are tied to the program's text (the card).
  (The frame follows the guide's template; printed by a program of this repo.)
-/
import Derived.Test.YtcjindifdghpgaaGreatDoorRows
import Derived.Test.YtcjindifdghpgaaGreatDoorTie
import Derived.Test.YtcjindifdghpgaaGreatDoorCards
import Derived.Test.YtcjindifdghpgaaGreatDoorScrO
import Derived.Test.YtcjindifdghpgaaGreatDoorOpsOP
import Derived.Test.YtcjindifdghpgaaGreatDoorScrH
import Derived.Test.YtcjindifdghpgaaGreatDoorOpsG
import Derived.WalkKit
import Derived.ProofKit
import Derived.OpenShut
import Derived.ShutString
import Derived.ChangeOld
import Derived.Below
import Derived.JoinedCond
import Derived.Deep.DeepHandedRow
import Derived.SevenTiedAt
import Derived.LaidHandle
import Derived.Deep.DeepLaidRun
import Derived.Deep.DeepWitnessRowRef
namespace Go.Proofs.YtcjindifdghpgaaGreatDoor.scriptLines
open Go.ChangeShapes Go.WideShapes Go.ChangeAt Go.RowKit
open Go.ChangeMaps (open_string shut_string)
set_option linter.unusedVariables false

theorem own : ownKnob Tryz.prog.godebug = none := by kernel_rfl
theorem laidOut : laidOutB Tryz.prog = true := by kernel_rfl
/-- A table's cells, off its datum. -/
def one : DataW Unit → List Value
  | .lit (.int k z) => [.int k z]
  | _ => []
def flat : DataW Unit → Array Value
  | .agg xs => (xs.flatMap fun
    | .lit (.int k z) => [.int k z]
    | .agg ys => ys.flatMap one
    | _ => []).toArray
  | _ => #[]
def lay (h : Array Obj) (g : Nat) (cs : Array Value) : Array Obj := h.modify g fun
  | .cells _ t frozen => .cells cs t frozen
  | o => o
/-- So many blocks has the settled world. -/
def low : Nat := 17
noncomputable def handleVal : Value := .iface 114 (.agg #[typeHandle Tryz.prog 33])
/-- The settled world, the listed variables laid. -/
noncomputable def laidWorld (os : Os) : World :=
  let w0 := World.holding Tryz.prog os ⟨#[.cells #[.string { data := #[118, 97, 108, 117, 101, 32, 111, 117, 116, 32, 111, 102, 32, 114, 97, 110, 103, 101] }] 223, .cells #[.string { data := #[105, 110, 118, 97, 108, 105, 100, 32, 115, 121, 110, 116, 97, 120] }] 223, .cells #[.int .u16 9, .int .u16 13, .int .u16 1, .int .u16 32, .int .u16 133, .int .u16 101, .int .u16 160, .int .u16 5760, .int .u16 5600, .int .u16 8192, .int .u16 8202, .int .u16 1, .int .u16 8232, .int .u16 8233, .int .u16 1, .int .u16 8239, .int .u16 8287, .int .u16 48, .int .u16 12288, .int .u16 12288, .int .u16 1] 210, .cells #[.slice (some ⟨low + 2, 0, none⟩) 7 7, .slice none 0 0, .int .i64 2] 207], #[], []⟩
  { w0 with heap := (lay (lay (lay (lay (lay (lay (lay (lay (lay (lay w0.heap 9 (flat Rows.laid_math_bits_deBruijn32tab)) 10 (flat Rows.laid_math_bits_deBruijn64tab)) 3 (flat Rows.laid_internal_strconv_uint64pow10)) 8 (flat Rows.laid_unicode_utf8_acceptRanges)) 0 #[handleVal]) 6 #[.iface 221 (.pointer (some ⟨low + 0, 0, none⟩))]) 5 #[.iface 221 (.pointer (some ⟨low + 1, 0, none⟩))]) 2 #[.pointer (some ⟨low + 3, 0, none⟩)]) 1 (flat Rows.laid_strings_asciiSpace)) 7 (flat Rows.laid_unicode_utf8_first)) }
set_option maxRecDepth 100000 in
theorem laid_met (os : Os) (args : Array Value) : laidMetH Tryz.prog Rows.scriptLinesUptoRow.laid ((laidWorld os).forCall (fun _ _ => 0) ⟨#[], args, []⟩).memory :=
  laidMetH_of_parts (laidMet_of_run3 8 (by kernel_rfl) (by kernel_rfl) (by kernel_rfl)) (by kernel_rfl)
set_option maxRecDepth 100000 in
theorem witness_row (os : Os) {H : Type} (enc : TypeId × Value → H) :
    (Rows.OpenSpec.upto Rows.scriptLinesSpec).preRow enc Tryz.prog Tryz.f4 Rows.scriptLinesUptoRow.domain false Rows.scriptLinesUptoRow.laid ((laidWorld os).forCall (fun _ _ => 0) ⟨#[], #[(.agg #[.int .i64 0, .string ⟨#[]⟩, .string ⟨#[]⟩, .string ⟨#[]⟩, .bool false, .string ⟨#[]⟩]), (.agg #[.int .i64 0, .int .u64 0, .bool false, .int .i64 0, .string ⟨#[]⟩, .string ⟨#[]⟩, .string ⟨#[]⟩, .bool false, .string ⟨#[]⟩, .int .i64 0, .bool false, .string ⟨#[]⟩, .string ⟨#[]⟩, .int .u64 0]), (.string ⟨#[]⟩)], []⟩).memory #[(.agg #[.int .i64 0, .string ⟨#[]⟩, .string ⟨#[]⟩, .string ⟨#[]⟩, .bool false, .string ⟨#[]⟩]), (.agg #[.int .i64 0, .int .u64 0, .bool false, .int .i64 0, .string ⟨#[]⟩, .string ⟨#[]⟩, .string ⟨#[]⟩, .bool false, .string ⟨#[]⟩, .int .i64 0, .bool false, .string ⟨#[]⟩, .string ⟨#[]⟩, .int .u64 0]), (.string ⟨#[]⟩)] := by
  have hw : (DataW.whole enc Tryz.prog ((laidWorld os).forCall (fun _ _ => 0) ⟨#[], #[(.agg #[.int .i64 0, .string ⟨#[]⟩, .string ⟨#[]⟩, .string ⟨#[]⟩, .bool false, .string ⟨#[]⟩]), (.agg #[.int .i64 0, .int .u64 0, .bool false, .int .i64 0, .string ⟨#[]⟩, .string ⟨#[]⟩, .string ⟨#[]⟩, .bool false, .string ⟨#[]⟩, .int .i64 0, .bool false, .string ⟨#[]⟩, .string ⟨#[]⟩, .int .u64 0]), (.string ⟨#[]⟩)], []⟩).memory Tryz.f4.params.toList (Rows.OpenSpec.upto Rows.scriptLinesSpec).vars false (#[(.agg #[.int .i64 0, .string ⟨#[]⟩, .string ⟨#[]⟩, .string ⟨#[]⟩, .bool false, .string ⟨#[]⟩]), (.agg #[.int .i64 0, .int .u64 0, .bool false, .int .i64 0, .string ⟨#[]⟩, .string ⟨#[]⟩, .string ⟨#[]⟩, .bool false, .string ⟨#[]⟩, .int .i64 0, .bool false, .string ⟨#[]⟩, .string ⟨#[]⟩, .int .u64 0]), (.string ⟨#[]⟩)] : Array Value).toList 8).map (fun x => (x.1, x.2.1)) =
      some ([.agg [.lit (.int .i64 0), .lit (.string []), .lit (.string []), .lit (.string []), .lit (.bool false), .lit (.string [])], .agg [.lit (.int .i64 0), .lit (.int .u64 0), .lit (.bool false), .agg [.lit (.int .i64 0), .lit (.string []), .lit (.string []), .lit (.string []), .lit (.bool false), .lit (.string [])], .agg [.lit (.int .i64 0), .lit (.bool false), .lit (.string []), .lit (.string []), .lit (.int .u64 0)]], .lit (.string [])], []) := by kernel_rfl
  obtain ⟨⟨x1, x2, x3⟩, hx, hx1⟩ := Option.map_eq_some_iff.1 hw
  simp only [Prod.mk.injEq] at hx1
  obtain ⟨rfl, rfl⟩ := hx1
  exact OpenSpec.preRow_of_cond 8 hx (by kernel_rfl) (fun k hk => by cases hk; rfl) (by kernel_rfl) (laid_met os _)

set_option maxRecDepth 100000 in
set_option maxHeartbeats 2000000 in
theorem lifted (os : Os) (started : os.Started) (H : Type) (enc : TypeId × Value → H) (F : Stop.Interp) :
    ReturnsInHanded {} Tryz.checked os 4 .any ((Rows.OpenSpec.upto Rows.scriptLinesSpec).preRow enc Tryz.prog Tryz.f4 Rows.scriptLinesUptoRow.domain false Rows.scriptLinesUptoRow.laid) (((Rows.OpenSpec.upto Rows.scriptLinesSpec).at F).post enc Tryz.prog Tryz.f4 false true false false) := by
  refine returnsInHanded_of_row (C := Tryz.checked) (s := Rows.OpenSpec.upto Rows.scriptLinesSpec) own started (by kernel_rfl) Tryz.func4
    (witness_row_atRef (enc := enc) (C := Tryz.checked) false (laidWorld os) #[(.agg #[.int .i64 0, .string ⟨#[]⟩, .string ⟨#[]⟩, .string ⟨#[]⟩, .bool false, .string ⟨#[]⟩]), (.agg #[.int .i64 0, .int .u64 0, .bool false, .int .i64 0, .string ⟨#[]⟩, .string ⟨#[]⟩, .string ⟨#[]⟩, .bool false, .string ⟨#[]⟩, .int .i64 0, .bool false, .string ⟨#[]⟩, .string ⟨#[]⟩, .int .u64 0]), (.string ⟨#[]⟩)] rfl (by kernel_rfl) (by kernel_rfl) (by kernel_rfl) (witness_row os enc)) ?_
  intro W base args ds gs before hval0 hW _ hcond0 hsz0 hL hsh _
  have hL' : laidMet Tryz.prog _ W := hL.1
  have hE : Env W := env_of hL'.tail.tail hL'.tail.tail.tail.tail hL'.tail.tail.tail.tail.tail hsh
  have hF : EnvF W := envF_of hL'.tail.tail.tail.tail.tail.tail.tail
  have hg := handle_of hL.2
  have hval : ∀ (j : Nat) t v, Tryz.f4.params[j]? = some t → args[j]? = some v → Value.okWide Tryz.prog W .any base t v := hval0
  have hW' := hW
  obtain ⟨p, q, hA0, hV, rfl, hfz, hnd⟩ := hW
  have hA : DataW.TrodAll enc Tryz.prog W 0 (fun _ => true) true Tryz.f4.params.toList args.toList ds p := hA0
  rw [Tryz.params4] at hA hval
  obtain ⟨v0, vs0, d0, ds0, p0, q0, hargs, rfl, rfl, h0, r0⟩ := trodAll_cons hA
  obtain ⟨v1, vs1, d1, ds1, p1, q1, rfl, rfl, rfl, h1, r1⟩ := trodAll_cons r0
  obtain ⟨v2, vs2, d2, ds2, p2, q2, rfl, rfl, rfl, h2, r2⟩ := trodAll_cons r1
  obtain ⟨rfl, rfl, rfl⟩ := trodAll_nil r2
  obtain rfl : args = #[v0, v1, v2] := by cases args; simp_all
  obtain ⟨rfl, rfl⟩ := trodVars_none hV
  have k0 := h0
  have lt0 : ∀ x ∈ p0, x.block < W.heap.size := by obtain ⟨m, hm⟩ := k0; exact DataW.trod_lt m _ _ _ hm
  have k1 := h1
  have lt1 : ∀ x ∈ p1, x.block < W.heap.size := by obtain ⟨m, hm⟩ := k1; exact DataW.trod_lt m _ _ _ hm
  have k2 := h2
  have lt2 : ∀ x ∈ p2, x.block < W.heap.size := by obtain ⟨m, hm⟩ := k2; exact DataW.trod_lt m _ _ _ hm
  obtain ⟨ok0, or0, oc0, ov0, oh0, oe0, rfl⟩ := open_op (hval 0 42 v0 rfl rfl) h0
  obtain ⟨va1, vb1, vc1, vd1, ve1, vf1, vg1, vh1, vi1, vj1, vk1, vl1, vm1, vn1, rfl⟩ := open_event (hval 1 53 v1 rfl rfl) h1
  obtain ⟨x2, rfl, dx2, _, wx2⟩ := open_string Tryz.underlying9 (hval 2 9 v2 rfl rfl) h2
  have hk := hcond0 _ rfl
  clear hA0 hval0
  refine (lines_walk hE hF hg ok0 or0 oc0 ov0 oh0 oe0 va1 vb1 vc1 vd1 ve1 vf1 vg1 vh1 vi1 vj1 vk1 vl1 vm1 vn1 x2 (by have h := of_decide_eq_true hk; simp only [dx2, List.append_nil, Rows.uptoBulkAll, Rows.uptoBulk] at h; have := slenB x2; omega)).mono fun e W' ⟨he, bel⟩ => ?_
  subst he
  exact ⟨_, rfl, _, _, _, [], _, [], hW', trodAll_mk1 (shut_bool Tryz.underlying4 _), (trodAll_cons_mk (Below.trod laidOut (by kernel_rfl) (of_decide_eq_true (by kernel_rfl)) k0 bel lt0) (trodAll_cons_mk (Below.trod laidOut (by kernel_rfl) (of_decide_eq_true (by kernel_rfl)) k1 bel lt1) (trodAll_cons_mk (Below.trod laidOut (by kernel_rfl) (of_decide_eq_true (by kernel_rfl)) k2 bel lt2) trodAll_mk0))), rfl, bel.frame _, fun h => by cases h⟩

theorem over : Rows.scriptLinesUptoRow.holds Tryz.pinned (Rows.OpenSpec.upto Rows.scriptLinesSpec) :=
  OpenClaim.holds_of_cond 4 Tryz.f4 rfl rfl rfl rfl rfl rfl rfl ⟨rfl, rfl, rfl, rfl, rfl⟩ rfl rfl rfl rfl rfl (by kernel_rfl) Tryz.func4 (by kernel_rfl)
    (of_decide_eq_true (by kernel_rfl)) (by unfold Func.isWrapper; first | (rw [if_pos (by decide +kernel)]; kernel_rfl) | (rw [if_neg (by decide +kernel)]; exact ⟨rfl, rfl⟩))
    (fun os started H enc _ F0 => by rw [OpenClaim.pre_eq_preRow]; exact lifted os started H enc F0)

theorem proved : Rows.ScriptLinesUptoCardSaid :=
  Claim7.holds_tied_plain_at .later [] [.data, .data, .data, .data, .handle, .sentinel, .sentinel, .listed, .data, .pinned] true (true, "6062ecde9101c41686fd5358cd8e792985ed6b136fbb6ab1b885be6c5c1ed283") true
    over (fun _ h => by cases h) (by kernel_rfl) (fun _ h => by cases h) scriptLinesUpto_row_tie rfl ⟨rfl, rfl⟩ (by kernel_rfl) rfl
    (fun f fn hf hfn => by
      obtain rfl : f = 4 := Option.some.inj ((show Tryz.prog.funcNamed "acreage/acreagelaw33.ScriptLines" = some 4 by kernel_rfl).symm.trans hf) |>.symm
      obtain rfl : fn = Tryz.f4 := (Option.some.inj (Tryz.func4.symm.trans hfn)).symm
      exact ⟨by kernel_rfl, fun j t ht => by
        rw [Tryz.params4] at ht
        have hb : ([42, 53, 9] : List TypeId).all (fun t => !Tryz.prog.wantsStandIn t) = true := by kernel_rfl
        have hm : t ∈ ([42, 53, 9] : List TypeId) := by simpa using Array.mem_of_getElem? ht
        have hf : Tryz.prog.wantsStandIn t = false := by simpa using List.all_eq_true.1 hb t hm
        exact hf⟩)
    (by kernel_rfl)
#print axioms proved
end Go.Proofs.YtcjindifdghpgaaGreatDoor.scriptLines
