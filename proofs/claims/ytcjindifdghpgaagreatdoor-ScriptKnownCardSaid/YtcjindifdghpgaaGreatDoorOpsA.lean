/-
  The law's 'of': an operation by small numbers: contract.
-/
import Derived.Test.YtcjindifdghpgaaGreatDoorOps8
import Derived.Test.YtcjindifdghpgaaGreatDoorOps7
namespace Go.Proofs.YtcjindifdghpgaaGreatDoor
set_option linter.all false
open Go.RowKit
section
variable {B w : World} {L : List HP}
abbrev spotC (k : Nat) (r c : UInt8) (v e : ByteArray) (has : Bool) : Array Value := #[.int .u8 k, .int .u8 r.toNat, .int .u8 c.toNat, .string v, .string e, .bool has]
/-- The operation of small numbers. -/
def ofK (k : Nat) : Int := ((1 + k % 5 : Nat) : Int)
def ofV (k : Nat) (v : Bs) : Bs := if k % 5 = 0 ∨ k % 5 = 3 then v.take 256 else []
def ofH (k : Nat) (has : Bool) : Bool := if k % 5 = 3 then has else false
def ofE (k : Nat) (has : Bool) (e : Bs) : Bs := if k % 5 = 3 ∧ has = true then e.take 256 else []
theorem of_may (k : Nat) (r c : UInt8) (v e : Bs) (has : Bool) : mayOp (ofK k) [r, 114] [c] (ofV k v) (ofH k has) (ofE k has e) = true := by
  have h5 : k % 5 = 0 ∨ k % 5 = 1 ∨ k % 5 = 2 ∨ k % 5 = 3 ∨ k % 5 = 4 := by omega
  rcases h5 with h | h | h | h | h <;> cases has <;> simp [mayOp, ofK, ofV, ofH, ofE, h, List.length_take] <;> omega
theorem ext_take (v : ByteArray) (m : Nat) (hm : min v.size 256 = m) : v.extract 0 m = bA (v.data.toList.take 256) := by
  have h1 := Value.string.inj (ext_val v 0 m)
  have hl : v.data.toList.length = v.size := slenB v
  rw [h1, List.drop_zero, Nat.sub_zero]
  have : v.data.toList.take m = v.data.toList.take 256 := by
    by_cases h : 256 ≤ v.size
    · rw [show m = 256 by omega]
    · rw [List.take_of_length_le (by omega), List.take_of_length_le (by omega)]
  rw [this]
set_option maxHeartbeats 2000000 in
set_option maxRecDepth 100000 in
theorem pof (k : Nat) (r c : UInt8) (hk : k < 256) (v e : ByteArray) (has : Bool) (h : Sat B L w) :
    Calls Tryz.prog 9 #[.agg (spotC k r c v e has)] w fun y w' =>
      y = .returned (.agg (opC (ofK k) (bA [r, 114]) (bA [c]) (bA (ofV k v.data.toList)) (ofH k has) (bA (ofE k has e.data.toList)))) ∧ Sat B L w' := by
  have v2 : ∀ (w' : World) (g : Nat), g = w'.heap.size → (convert 23 9 (.slice (some ⟨g, 0, none⟩) 2 2)).run Tryz.prog (w'.alloc (.cells #[.int .u8 r.toNat, .int .u8 114] 5)) = .ok (.string ⟨#[r, 114]⟩) (w'.alloc (.cells #[.int .u8 r.toNat, .int .u8 114] 5)) :=
    fun w' g hg => run_bytes_string (bs := [r, 114]) Tryz.underlying23 Tryz.underlying5 Tryz.underlying9 (reads_new #[.int .u8 r.toNat, .int .u8 114] _ hg (by omega)) rfl
  have v1 : ∀ (w' : World) (g : Nat), g = w'.heap.size → (convert 23 9 (.slice (some ⟨g, 0, none⟩) 1 1)).run Tryz.prog (w'.alloc (.cells #[.int .u8 c.toNat] 5)) = .ok (.string ⟨#[c]⟩) (w'.alloc (.cells #[.int .u8 c.toNat] 5)) :=
    fun w' g hg => run_bytes_string (bs := [c]) Tryz.underlying23 Tryz.underlying5 Tryz.underlying9 (reads_new #[.int .u8 c.toNat] _ hg (by omega)) rfl
  obtain ⟨mv, hmv⟩ : ∃ mv : Nat, min v.size 256 = mv := ⟨_, rfl⟩
  obtain ⟨me, hme⟩ : ∃ me : Nat, min e.size 256 = me := ⟨_, rfl⟩
  have mv1 : min (v.size : Int) 256 = mv := by omega
  have me1 : min (e.size : Int) 256 = me := by omega
  have mv2 : mv ≤ v.size := by omega
  have me2 : me ≤ e.size := by omega
  have mv3 : (mv : Int) ≤ v.size := by omega
  have me3 : (me : Int) ≤ e.size := by omega
  have Hm := Lib.hid (And.intro hmv hme)
  clear hmv hme
  have e1 : (k : Int).tmod 5 = ((k % 5 : Nat) : Int) := by rw [Int.tmod_eq_emod_of_nonneg (by omega)]; omega
  obtain ⟨q, hq⟩ : ∃ q, k % 5 = q := ⟨_, rfl⟩
  rw [hq] at e1
  have hq5 : q = 0 ∨ q = 1 ∨ q = 2 ∨ q = 3 ∨ q = 4 := by omega
  have xv := ext_take v mv Hm.out.1
  have xe := ext_take e me Hm.out.2
  have hbV : bA (ofV k v.data.toList) = if q = 0 ∨ q = 3 then v.extract 0 mv else ⟨#[]⟩ := by unfold ofV; rw [hq, xv]; split <;> rfl
  have hbE : bA (ofE k has e.data.toList) = if q = 3 ∧ has = true then e.extract 0 me else ⟨#[]⟩ := by unfold ofE; rw [hq, xe]; split <;> rfl
  have hbK : ofK k = ((1 + q : Nat) : Int) := by rw [ofK, hq]
  have hbH : ofH k has = if q = 3 then has else false := by unfold ofH; rw [hq]
  rw [hbV, hbE, hbK, hbH]
  clear hbV hbE hbK hbH xv xe hq
  rcases hq5 with rfl | rfl | rfl | rfl | rfl <;> cases has
  all_goals
    simp only [Nat.reduceAdd, Nat.reduceEqDiff, or_true, true_or, or_false, or_self, if_true, if_false, true_and, and_true, false_and, and_false, Bool.false_eq_true, reduceIte, Nat.one_ne_zero]
    go_enter Tryz.func9, Tryz.ntmps9
    go_wp2_with fail
    refine bodyPost_ret (v := .agg _) (by simp [results, Tryz.results9, go_sem]) rfl ⟨rfl, ?_⟩
    exact (((((h.alloc _).alloc _).alloc _).alloc _).alloc _).drop.drop.drop.drop.drop
end
end Go.Proofs.YtcjindifdghpgaaGreatDoor
