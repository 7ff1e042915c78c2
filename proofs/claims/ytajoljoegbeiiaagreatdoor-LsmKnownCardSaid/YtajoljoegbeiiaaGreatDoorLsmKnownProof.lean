/-
  Proved: whatever input acreage's law LsmKnown is called with, it returns true and each argument reads afterwards as it read before; the package variables that the row lists are tied to the program's text (the card).
  (The frame follows the guide's template; printed by a program of this repo.)
-/
import Derived.Test.YtajoljoegbeiiaaGreatDoorRows
import Derived.Test.YtajoljoegbeiiaaGreatDoorTie
import Derived.Test.YtajoljoegbeiiaaGreatDoorCards
import Derived.Test.YtajoljoegbeiiaaGreatDoorLsmKnownF
import Derived.Test.YtajoljoegbeiiaaGreatDoorLkW
import Derived.WalkKit
import Derived.ProofKit
import Derived.OpenShut
import Derived.ShutString
import Derived.ChangeOld
import Derived.Below
import Derived.JoinedCond
import Derived.Deep.DeepHandedRow
import Derived.SevenTiedAt
import Derived.LaidHandle
import Derived.Deep.DeepLaidRun
namespace Go.Proofs.YtajoljoegbeiiaaGreatDoor.lsmKnown
open Go.ChangeShapes Go.WideShapes Go.ChangeAt Go.RowKit
open Go.ChangeMaps (open_string shut_string)
set_option linter.unusedVariables false

theorem own : ownKnob Tryz.prog.godebug = none := by kernel_rfl
theorem laidOut : laidOutB Tryz.prog = true := by kernel_rfl
/-- A table's cells, off its datum. -/
def one : DataW Unit → List Value
  | .lit (.int k z) => [.int k z]
  | _ => []
def flat : DataW Unit → Array Value
  | .agg xs => (xs.flatMap fun
    | .lit (.int k z) => [.int k z]
    | .agg ys => ys.flatMap one
    | _ => []).toArray
  | _ => #[]
def lay (h : Array Obj) (g : Nat) (cs : Array Value) : Array Obj := h.modify g fun
  | .cells _ t frozen => .cells cs t frozen
  | o => o
/-- So many blocks has the settled world. -/
noncomputable def low : Nat := (World.holding Tryz.prog default ⟨#[], #[], []⟩).heap.size
/-- The settled world, the listed variables laid. -/
noncomputable def laidWorld (os : Os) : World :=
  let w0 := World.holding Tryz.prog os ⟨#[.cells #[.string { data := #[118, 97, 108, 117, 101, 32, 111, 117, 116, 32, 111, 102, 32, 114, 97, 110, 103, 101] }] 356, .cells #[.string { data := #[105, 110, 118, 97, 108, 105, 100, 32, 115, 121, 110, 116, 97, 120] }] 356], #[], []⟩
  { w0 with heap := (lay (lay (lay (lay (lay (lay (lay w0.heap 1 (flat Rows.laid_math_bits_deBruijn32tab)) 2 (flat Rows.laid_math_bits_deBruijn64tab)) 5 (flat Rows.laid_internal_strconv_uint64pow10)) 7 (flat Rows.laid_unicode_utf8_acceptRanges)) 4 #[.iface 354 (.pointer (some ⟨low + 0, 0, none⟩))]) 3 #[.iface 354 (.pointer (some ⟨low + 1, 0, none⟩))]) 6 (flat Rows.laid_unicode_utf8_first)) }
set_option maxRecDepth 100000 in
theorem laid_met (os : Os) (args : Array Value) : laidMet Tryz.prog Rows.lsmKnownRow.laid ((laidWorld os).forCall (fun _ _ => 0) ⟨#[], args, []⟩).memory :=
  laidMet_of_run3 8 (by kernel_rfl) (by kernel_rfl) (by kernel_rfl)
set_option maxRecDepth 100000 in
theorem witness_row (os : Os) {H : Type} (enc : TypeId × Value → H) :
    (OpenSpec.ofChange Rows.lsmKnownSpec).preRow enc Tryz.prog Tryz.f3 Rows.lsmKnownRow.domain false Rows.lsmKnownRow.laid ((laidWorld os).forCall (fun _ _ => 0) ⟨#[], #[], []⟩).memory #[] := by
  have hw : (DataW.whole enc Tryz.prog ((laidWorld os).forCall (fun _ _ => 0) ⟨#[], #[], []⟩).memory Tryz.f3.params.toList (OpenSpec.ofChange Rows.lsmKnownSpec).vars false (#[] : Array Value).toList 8).map (fun x => (x.1, x.2.1)) =
      some ([], []) := by kernel_rfl
  obtain ⟨⟨x1, x2, x3⟩, hx, hx1⟩ := Option.map_eq_some_iff.1 hw
  simp only [Prod.mk.injEq] at hx1
  obtain ⟨rfl, rfl⟩ := hx1
  exact OpenSpec.preRow_of_cond 8 hx (by kernel_rfl) (fun k hk => by cases hk) (by kernel_rfl) (laid_met os _)

set_option maxRecDepth 100000 in
set_option maxHeartbeats 2000000 in
theorem lifted (os : Os) (started : os.Started) (H : Type) (enc : TypeId × Value → H) (F : Stop.Interp) :
    ReturnsInHanded {} Tryz.checked os 3 .any ((OpenSpec.ofChange Rows.lsmKnownSpec).preRow enc Tryz.prog Tryz.f3 Rows.lsmKnownRow.domain false Rows.lsmKnownRow.laid) (((OpenSpec.ofChange Rows.lsmKnownSpec).at F).post enc Tryz.prog Tryz.f3 false true false false) := by
  refine returnsInHanded_of_row (C := Tryz.checked) (s := OpenSpec.ofChange Rows.lsmKnownSpec) own started (by kernel_rfl) Tryz.func3
    (witness_row_at (enc := enc) (C := Tryz.checked) false (laidWorld os) #[] rfl (by kernel_rfl) (by kernel_rfl) (by kernel_rfl) (witness_row os enc)) ?_
  intro W base args ds gs before hval0 hW _ hcond0 hsz0 hL hsh _
  have hL' : laidMet Tryz.prog _ W := hL
  have hval : ∀ (j : Nat) t v, Tryz.f3.params[j]? = some t → args[j]? = some v → Value.okWide Tryz.prog W .any base t v := hval0
  have hW' := hW
  obtain ⟨p, q, hA0, hV, rfl, hfz, hnd⟩ := hW
  have hA : DataW.TrodAll enc Tryz.prog W 0 (fun _ => true) true Tryz.f3.params.toList args.toList ds p := hA0
  rw [Tryz.params3] at hA hval
  obtain ⟨rfl, rfl, rfl⟩ := trodAll_none hA
  obtain ⟨rfl, rfl⟩ := trodVars_none hV


  clear hA0 hval0
  refine (known_walk W (laid_ok hL'.tail hsh)).mono fun e W' ⟨he, bel⟩ => ?_
  subst he
  exact ⟨_, rfl, _, _, _, [], _, [], hW', trodAll_mk1 (shut_bool Tryz.underlying4 _), trodAll_mk0, rfl, bel.frame _, fun h => by cases h⟩

theorem over : Rows.lsmKnownRow.holds Tryz.pinned (OpenSpec.ofChange Rows.lsmKnownSpec) :=
  OpenClaim.holds_of_cond 3 Tryz.f3 rfl rfl rfl rfl rfl rfl rfl ⟨rfl, rfl, rfl, rfl, rfl⟩ rfl rfl rfl rfl rfl fName Tryz.func3 fJoined
    (of_decide_eq_true (by kernel_rfl)) (by unfold Func.isWrapper; first | (rw [if_pos (by decide +kernel)]; kernel_rfl) | (rw [if_neg (by decide +kernel)]; exact ⟨rfl, rfl⟩))
    (fun os started H enc _ F0 => by rw [OpenClaim.pre_eq_preRow]; exact lifted os started H enc F0)

theorem proved : Rows.LsmKnownCardSaid :=
  Claim7.holds_tied_plain_at .later [] [.data, .data, .data, .data, .sentinel, .sentinel, .pinned] true (true, "2847a83ffcb7aaf0a2de7d488582363b26ccc884a29982683edbfcf11f39248e") true
    over (fun _ h => by cases h) fWf (fun _ h => by cases h) lsmKnown_row_tie rfl ⟨rfl, rfl⟩ fMain rfl
    (fun f fn hf hfn => by
      obtain rfl : f = 3 := Option.some.inj ((show Tryz.prog.funcNamed "acreage/acreagelaw14.LsmKnown" = some 3 from fName).symm.trans hf) |>.symm
      obtain rfl : fn = Tryz.f3 := (Option.some.inj (Tryz.func3.symm.trans hfn)).symm
      exact ⟨fLooks, fun j t ht => by
        rw [Tryz.params3] at ht
        have hb : ([] : List TypeId).all (fun t => !Tryz.prog.wantsStandIn t) = true := by kernel_rfl
        have hm : t ∈ ([] : List TypeId) := by simpa using Array.mem_of_getElem? ht
        have hf : Tryz.prog.wantsStandIn t = false := by simpa using List.all_eq_true.1 hb t hm
        exact hf⟩)
    fGoes
#print axioms proved
end Go.Proofs.YtajoljoegbeiiaaGreatDoor.lsmKnown
