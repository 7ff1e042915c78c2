/-
  The executor: the comparison of two texts by the model's entry.
-/
import Derived.Test.YtajoljoegbeiiaaGreatDoorExW
import Derived.Lib.Bytealg
import Derived.Sort.Walk0
namespace Go.Proofs.YtajoljoegbeiiaaGreatDoor
set_option linter.all false
namespace Ex
open Go.RowKit Go.Sort
noncomputable section
def cmpV (a b : List UInt8) : AV := bif ltS a b then .int .i64 (.negSucc 0) else bif ltS b a then .int .i64 (.ofNat 1) else .int .i64 (.ofNat 0)
def cmpG (h : Hp) (nx : Nat) (a b : List UInt8) : Option Rs := some ⟨cmpV a b, h, nx⟩
def cmpA (h : Hp) (nx : Nat) (y : AV) (a : List UInt8) : Option Rs := (asS y).bind (cmpG h nx a)
/-- The comparison of two texts. -/
def cmpP (args : List AV) (h : Hp) (nx : Nat) : Option Rs := match args with
  | [x, y] => (asS x).bind (cmpA h nx y)
  | _ => none
end
theorem cmpV_eq (a b : List UInt8) : cmpV a b = .int .i64 (Lib.compareBytes a b) := by
  unfold cmpV
  rw [ltS_eq, ltS_eq, bytesLess_eq, bytesLess_eq]
  induction a generalizing b with
  | nil =>
    cases b with
    | nil => rfl
    | cons y b => rw [decide_eq_true (List.nil_lt_cons y b)]; rfl
  | cons x a ih =>
    cases b with
    | nil =>
      rw [decide_eq_false (List.not_lt_nil _), decide_eq_true (List.nil_lt_cons x a)]; rfl
    | cons y b =>
      have ih := ih b
      rw [Lib.compareBytes]
      by_cases h1 : x < y
      · rw [if_pos h1, decide_eq_true (List.cons_lt_cons_iff.2 (.inl h1))]; rfl
      · by_cases h2 : y < x
        · rw [if_neg h1, if_pos h2, decide_eq_true (p := y :: b < x :: a) (List.cons_lt_cons_iff.2 (.inl h2)), decide_eq_false]
          · rfl
          · intro h
            rcases List.cons_lt_cons_iff.1 h with h | ⟨h, _⟩
            · exact h1 h
            · subst h; exact h1 h2
        · have hxy : x = y := by
            have a1 : ¬ x.toNat < y.toNat := h1
            have a2 : ¬ y.toNat < x.toNat := h2
            exact UInt8.toNat_inj.1 (by omega)
          subst hxy
          rw [if_neg h1, if_neg h2, ← ih]
          have e1 : decide (x :: a < x :: b) = decide (a < b) := decide_eq_decide.2 ⟨fun h => by
            rcases List.cons_lt_cons_iff.1 h with h | ⟨_, h⟩
            · exact absurd h h1
            · exact h, fun h => List.cons_lt_cons_iff.2 (.inr ⟨rfl, h⟩)⟩
          have e2 : decide (x :: b < x :: a) = decide (b < a) := decide_eq_decide.2 ⟨fun h => by
            rcases List.cons_lt_cons_iff.1 h with h | ⟨_, h⟩
            · exact absurd h h1
            · exact h, fun h => List.cons_lt_cons_iff.2 (.inr ⟨rfl, h⟩)⟩
          rw [e1, e2]
theorem met_cmp {P : Program} {f : FuncId} {fn : Func} (hf : P.funcs[f]? = some fn) (hname : (fn.name == "runtime.NumGoroutine") = false) (hb : fn.body.isNone = true) (hn : Extern.findNext fn = none) (he : Extern.find fn = some Extern.BytealgCompare.compare) : Met P f cmpP := by
  refine met_runs fun args h nx r hr m w Vs hW hv => ?_
  unfold cmpP at hr
  split at hr
  · rename_i x y
    obtain ⟨a, ha, hr⟩ := bind_some hr
    obtain ⟨b, hb2, hr⟩ := bind_some hr
    cases hr
    obtain rfl := asS_some ha
    obtain rfl := asS_some hb2
    obtain ⟨A, B, rfl, hA, hB⟩ := vrl2 hv
    obtain rfl := hA.str_inv
    obtain rfl := hB.str_inv
    refine ⟨.int .i64 (Lib.compareBytes a b), w, m, ?_, hW, ?_, Evo.refl m h w⟩
    · rw [run_callFunc_extern hf hname hb hn he]
      rw [Lib.run_compareString]
      rfl
    · show VR m (cmpV a b) _
      rw [cmpV_eq]
      exact .int _ _
  · cases hr
end Ex
end Go.Proofs.YtajoljoegbeiiaaGreatDoor
