/-
  Proved: whatever input acreage's law ScriptTold is called with, it returns true and each argument reads afterwards as it read before; the package variables that the row lists are tied to the program's text (the card).
  (The frame follows the guide's template; printed by a program of this repo.)
-/
import Derived.Test.YtjfnkglppldfnaaDoorRows
import Derived.Test.YtjfnkglppldfnaaDoorTie
import Derived.Test.YtjfnkglppldfnaaDoorCards
import Derived.Test.YtjfnkglppldfnaaDoorScrO
import Derived.Test.YtjfnkglppldfnaaDoorScrH
import Derived.Test.YtjfnkglppldfnaaDoorScrV
import Derived.WalkKit
import Derived.ProofKit
import Derived.OpenShut
import Derived.ShutString
import Derived.ChangeOld
import Derived.Below
import Derived.JoinedCond
import Derived.Deep.DeepHandedRow
import Derived.SevenTiedAt
import Derived.LaidHandle
namespace Go.Proofs.YtjfnkglppldfnaaDoor.scriptTold
open Go.ChangeShapes Go.WideShapes Go.ChangeAt Go.RowKit
open Go.ChangeMaps (open_string shut_string)
set_option linter.unusedVariables false

theorem own : ownKnob Tryd.prog.godebug = none := by kernel_rfl
theorem laidOut : laidOutB Tryd.prog = true := by kernel_rfl
/-- A table's cells, off its datum. -/
def one : DataW Unit → List Value
  | .lit (.int k z) => [.int k z]
  | _ => []
def flat : DataW Unit → Array Value
  | .agg xs => (xs.flatMap fun
    | .lit (.int k z) => [.int k z]
    | .agg ys => ys.flatMap one
    | _ => []).toArray
  | _ => #[]
def lay (h : Array Obj) (g : Nat) (cs : Array Value) : Array Obj := h.modify g fun
  | .cells _ t frozen => .cells cs t frozen
  | o => o
/-- So many blocks has the settled world. -/
noncomputable def low : Nat := (World.holding Tryd.prog default ⟨#[], #[], []⟩).heap.size
noncomputable def handleVal : Value := .iface 89 (.agg #[typeHandle Tryd.prog 32])
/-- The settled world, the listed variables laid. -/
noncomputable def laidWorld (os : Os) : World :=
  let w0 := World.holding Tryd.prog os ⟨#[.cells #[.string { data := #[118, 97, 108, 117, 101, 32, 111, 117, 116, 32, 111, 102, 32, 114, 97, 110, 103, 101] }] 142, .cells #[.string { data := #[105, 110, 118, 97, 108, 105, 100, 32, 115, 121, 110, 116, 97, 120] }] 142], #[], []⟩
  { w0 with heap := (lay (lay (lay (lay (lay (lay (lay (lay w0.heap 7 (flat Rows.laid_math_bits_deBruijn32tab)) 8 (flat Rows.laid_math_bits_deBruijn64tab)) 1 (flat Rows.laid_internal_strconv_uint64pow10)) 6 (flat Rows.laid_unicode_utf8_acceptRanges)) 0 #[handleVal]) 4 #[.iface 140 (.pointer (some ⟨low + 0, 0, none⟩))]) 3 #[.iface 140 (.pointer (some ⟨low + 1, 0, none⟩))]) 5 (flat Rows.laid_unicode_utf8_first)) }
set_option maxRecDepth 100000 in
theorem laid_met (os : Os) (args : Array Value) : laidMetH Tryd.prog Rows.scriptToldRow.laid ((laidWorld os).forCall (fun _ _ => 0) ⟨#[], args, []⟩).memory :=
  laidMetH_of_parts (laidMet_of_run' 8 (by kernel_rfl) (by kernel_rfl)) (by kernel_rfl)
set_option maxRecDepth 100000 in
theorem witness_row (os : Os) {H : Type} (enc : TypeId × Value → H) :
    (OpenSpec.ofChange Rows.scriptToldSpec).preRow enc Tryd.prog Tryd.f4 Rows.scriptToldRow.domain false Rows.scriptToldRow.laid ((laidWorld os).forCall (fun _ _ => 0) ⟨#[], #[(.slice none 0 0), (.int .u8 0)], []⟩).memory #[(.slice none 0 0), (.int .u8 0)] := by
  have hw : (DataW.whole enc Tryd.prog ((laidWorld os).forCall (fun _ _ => 0) ⟨#[], #[(.slice none 0 0), (.int .u8 0)], []⟩).memory Tryd.f4.params.toList (OpenSpec.ofChange Rows.scriptToldSpec).vars false (#[(.slice none 0 0), (.int .u8 0)] : Array Value).toList 8).map (fun x => (x.1, x.2.1)) =
      some ([.nil, .lit (.int .u8 0)], []) := by kernel_rfl
  obtain ⟨⟨x1, x2, x3⟩, hx, hx1⟩ := Option.map_eq_some_iff.1 hw
  simp only [Prod.mk.injEq] at hx1
  obtain ⟨rfl, rfl⟩ := hx1
  exact OpenSpec.preRow_of_cond 8 hx (by kernel_rfl) (fun k hk => by cases hk) (by kernel_rfl) (laid_met os _)

set_option maxRecDepth 100000 in
set_option maxHeartbeats 2000000 in
theorem lifted (os : Os) (started : os.Started) (H : Type) (enc : TypeId × Value → H) (F : Stop.Interp) :
    ReturnsInHanded {} Tryd.checked os 4 .any ((OpenSpec.ofChange Rows.scriptToldSpec).preRow enc Tryd.prog Tryd.f4 Rows.scriptToldRow.domain false Rows.scriptToldRow.laid) (((OpenSpec.ofChange Rows.scriptToldSpec).at F).post enc Tryd.prog Tryd.f4 false true false false) := by
  refine returnsInHanded_of_row (C := Tryd.checked) (s := OpenSpec.ofChange Rows.scriptToldSpec) own started (by kernel_rfl) Tryd.func4
    (witness_row_at (enc := enc) (C := Tryd.checked) false (laidWorld os) #[(.slice none 0 0), (.int .u8 0)] rfl (by kernel_rfl) (by kernel_rfl) (by kernel_rfl) (witness_row os enc)) ?_
  intro W base args ds gs before hval0 hW _ hcond0 hsz0 hL hsh _
  have hL' : laidMet Tryd.prog _ W := hL.1
  have hE : Env W := env_of hL'.tail.tail hL'.tail.tail.tail.tail hL'.tail.tail.tail.tail.tail hsh
  have hg := handle_of hL.2
  have hval : ∀ (j : Nat) t v, Tryd.f4.params[j]? = some t → args[j]? = some v → Value.okWide Tryd.prog W .any base t v := hval0
  have hW' := hW
  obtain ⟨p, q, hA0, hV, rfl, hfz, hnd⟩ := hW
  have hA : DataW.TrodAll enc Tryd.prog W 0 (fun _ => true) true Tryd.f4.params.toList args.toList ds p := hA0
  rw [Tryd.params4] at hA hval
  obtain ⟨v0, vs0, d0, ds0, p0, q0, hargs, rfl, rfl, h0, r0⟩ := trodAll_cons hA
  obtain ⟨v1, vs1, d1, ds1, p1, q1, rfl, rfl, rfl, h1, r1⟩ := trodAll_cons r0
  obtain ⟨rfl, rfl, rfl⟩ := trodAll_nil r1
  obtain rfl : args = #[v0, v1] := by cases args; simp_all
  obtain ⟨rfl, rfl⟩ := trodVars_none hV
  have k0 := h0
  have lt0 : ∀ x ∈ p0, x.block < W.heap.size := by obtain ⟨m, hm⟩ := k0; exact DataW.trod_lt m _ _ _ hm
  have k1 := h1
  have lt1 : ∀ x ∈ p1, x.block < W.heap.size := by obtain ⟨m, hm⟩ := k1; exact DataW.trod_lt m _ _ _ hm
  obtain ⟨a0, n0, c0, bs0, rfl, hl0, hr0⟩ := open_bytes (hval 0 24 v0 rfl rfl) h0
  obtain ⟨x1, rfl, _, _, wx1⟩ := open_int Tryd.underlying5 (hval 1 5 v1 rfl rfl) h1
  clear hA0 hval0
  refine (told_walk hE hg a0 n0 c0 bs0 hl0 hr0 x1 (by have h := wx1; simp [Lit.wf, IntKind.min, IntKind.max, IntKind.signed, IntKind.bits] at h; exact h)).mono fun e W' ⟨he, bel⟩ => ?_
  subst he
  exact ⟨_, rfl, _, _, _, [], _, [], hW', trodAll_mk1 (shut_bool Tryd.underlying4 _), (trodAll_cons_mk (Below.trod laidOut (by kernel_rfl) (of_decide_eq_true (by kernel_rfl)) k0 bel lt0) (trodAll_cons_mk (Below.trod laidOut (by kernel_rfl) (of_decide_eq_true (by kernel_rfl)) k1 bel lt1) trodAll_mk0)), rfl, bel.frame _, fun h => by cases h⟩

theorem over : Rows.scriptToldRow.holds Tryd.pinned (OpenSpec.ofChange Rows.scriptToldSpec) :=
  OpenClaim.holds_of_cond 4 Tryd.f4 rfl rfl rfl rfl rfl rfl rfl ⟨rfl, rfl, rfl, rfl, rfl⟩ rfl rfl rfl rfl rfl (by kernel_rfl) Tryd.func4 (by kernel_rfl)
    (of_decide_eq_true (by kernel_rfl)) (by unfold Func.isWrapper; first | (rw [if_pos (by decide +kernel)]; kernel_rfl) | (rw [if_neg (by decide +kernel)]; exact ⟨rfl, rfl⟩))
    (fun os started H enc _ F0 => by rw [OpenClaim.pre_eq_preRow]; exact lifted os started H enc F0)

theorem proved : Rows.ScriptToldCardSaid :=
  Claim7.holds_tied_plain_at .later [] [.data, .data, .data, .data, .handle, .sentinel, .sentinel, .pinned] true (true, "948dbe51163ecb76f8a974a5e2f99b69da0dce219ea68ce792bee7fbccfa0ed9") true
    over (fun _ h => by cases h) (by kernel_rfl) (fun _ h => by cases h) scriptTold_row_tie rfl ⟨rfl, rfl⟩ (by kernel_rfl) rfl
    (fun f fn hf hfn => by
      obtain rfl : f = 4 := Option.some.inj ((show Tryd.prog.funcNamed "acreage/acreagelaw33.ScriptTold" = some 4 by kernel_rfl).symm.trans hf) |>.symm
      obtain rfl : fn = Tryd.f4 := (Option.some.inj (Tryd.func4.symm.trans hfn)).symm
      exact ⟨by kernel_rfl, fun j t ht => by
        rw [Tryd.params4] at ht
        have hb : ([24, 5] : List TypeId).all (fun t => !Tryd.prog.wantsStandIn t) = true := by kernel_rfl
        have hm : t ∈ ([24, 5] : List TypeId) := by simpa using Array.mem_of_getElem? ht
        have hf : Tryd.prog.wantsStandIn t = false := by simpa using List.all_eq_true.1 hb t hm
        exact hf⟩)
    (by kernel_rfl)
#print axioms proved
end Go.Proofs.YtjfnkglppldfnaaDoor.scriptTold
