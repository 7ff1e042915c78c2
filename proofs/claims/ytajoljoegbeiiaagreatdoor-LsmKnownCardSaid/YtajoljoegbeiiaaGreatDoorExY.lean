/-
  The executor: seal.Sum of two texts by its contract.
-/
import Derived.Test.YtajoljoegbeiiaaGreatDoorExV
import Derived.Test.YtajoljoegbeiiaaGreatDoorSlA
namespace Go.Proofs.YtajoljoegbeiiaaGreatDoor
set_option linter.all false
namespace Ex
open Go.RowKit
noncomputable section
/-- 'x', reckoned now, to a function. -/
def nowN (f : Nat → Nat) (x : Nat) : Nat := Nat.rec (motive := fun _ => Nat) (f 0) (fun p _ => f (Nat.succ p)) x
def stepK (x : Nat) : Nat := Nat.rec (motive := fun _ => Nat) (Nat.div x 2) (fun _ _ => Nat.xor (Nat.div x 2) 3988292384) (Nat.mod x 2)
def tabK (x : Nat) : Nat := nowN (fun x => nowN (fun x => nowN (fun x => nowN (fun x => nowN (fun x => nowN (fun x => nowN (fun x => stepK x) (stepK x)) (stepK x)) (stepK x)) (stepK x)) (stepK x)) (stepK x)) (stepK x)
def regK (x : Nat) (b : UInt8) : Nat := nowN (fun t => Nat.xor (Nat.div x 256) t) (nowN tabK (Nat.xor (Nat.mod x 256) (n8 b)))
def foldK (l : List UInt8) : Nat → Nat := List.rec (motive := fun _ => Nat → Nat) (fun x => x) (fun b _ ih x => nowN ih (regK x b)) l
def sumK (l : List UInt8) : Nat := Nat.xor 4294967295 (foldK l 4294967295)
def sumR (h : Hp) (nx : Nat) (z : Nat) : Option Rs := Nat.rec (motive := fun _ => Option Rs) (some ⟨.int .u32 (.ofNat 0), h, nx⟩) (fun p _ => some ⟨.int .u32 (.ofNat (Nat.succ p)), h, nx⟩) z
def sumT (h : Hp) (nx : Nat) (s t : List UInt8) : Option Rs := bif Nat.blt (lenL s) 1073741824 && Nat.blt (lenL t) 1073741824 then sumR h nx (sumK (cat s t)) else none
def sumL (h : Hp) (nx : Nat) (l : List AV) : Option Rs := match l with
  | [x, y] => (asS x).bind fun s => (asS y).bind (sumT h nx s)
  | _ => none
def fxOf (h : Hp) (b : Nat) : Bool := ((getBk h b).map fun k => k.fx).getD false
def sumS (h : Hp) (nx : Nat) (s : Sl) : Option Rs := bif Nat.beq s.n 2 && Nat.beq s.c 2 && fxOf h s.b then (loadN h s.b s.o 2).bind (sumL h nx) else none
/-- 'seal.Sum' of a slice of two texts. -/
def sumP (args : List AV) (h : Hp) (nx : Nat) : Option Rs := match args with
  | [v] => (asSl v).bind (sumS h nx)
  | _ => none
end
theorem nowN_eq (f : Nat → Nat) (x : Nat) : nowN f x = f x := by cases x <;> rfl
theorem stepK_eq (x : Nat) : stepK x = stepN x := by
  unfold stepN
  rw [Nat.shiftRight_eq_div_pow]
  rcases Nat.mod_two_eq_zero_or_one x with h | h
  · rw [if_neg (by omega)]
    show Nat.rec (motive := fun _ => Nat) (x / 2) (fun _ _ => Nat.xor (x / 2) 3988292384) (x % 2) = _
    rw [h]; rfl
  · rw [if_pos h]
    show Nat.rec (motive := fun _ => Nat) (x / 2) (fun _ _ => Nat.xor (x / 2) 3988292384) (x % 2) = _
    rw [h]; rfl
theorem tabK_eq (x : Nat) : tabK x = tabN x := by
  unfold tabK tabN
  simp only [nowN_eq, stepK_eq]
theorem n8_toNat (b : UInt8) : n8 b = b.toNat := rfl
theorem regK_eq (x : Nat) (b : UInt8) : regK x b = regN x b := by
  unfold regK regN
  simp only [nowN_eq, tabK_eq, n8_toNat]
  rw [Nat.shiftRight_eq_div_pow]
  rfl
theorem foldK_eq : ∀ (l : List UInt8) (x : Nat), foldK l x = l.foldl regN x
  | [], _ => rfl
  | b :: l, x => by
    show nowN (foldK l) (regK x b) = _
    rw [nowN_eq, regK_eq, foldK_eq l]
    rfl
theorem sumK_eq (l : List UInt8) : sumK l = sumN l := by
  unfold sumK sumN
  rw [foldK_eq]; rfl
theorem sumR_eq (h : Hp) (nx z : Nat) : sumR h nx z = some ⟨.int .u32 (.ofNat z), h, nx⟩ := by cases z <;> rfl
theorem cat_append {α : Type} (a b : List α) : cat a b = a ++ b := by
  induction a with
  | nil => rfl
  | cons x a ih => exact congrArg (x :: ·) ih
theorem asSl_eq {v : AV} {s : Sl} (h : asSl v = some s) : v = .slice s.b s.o s.n s.c s.ex := by cases v <;> first | (cases h; rfl) | cases h
set_option maxRecDepth 100000 in
theorem met_sum (hN : NoNum Tryz.prog) : Met Tryz.prog 157 sumP := by
  refine met_calls hN Tryz.func157 rfl fun args h nx r hr m w Vs hW hvs => ?_
  unfold sumP at hr
  split at hr
  · rename_i v
    obtain ⟨s, hs, hr⟩ := Option.bind_eq_some_iff.1 hr
    obtain rfl := asSl_eq hs
    unfold sumS at hr
    obtain ⟨hc, hr⟩ := cond_some hr
    simp only [Bool.and_eq_true] at hc
    obtain ⟨⟨hn, hcc⟩, hfx⟩ := hc
    have hn := Nat.eq_of_beq_eq_true hn
    have hcc := Nat.eq_of_beq_eq_true hcc
    obtain ⟨k, hk, hkf⟩ := map_some (getD_true hfx)
    obtain ⟨l, hl, hr⟩ := Option.bind_eq_some_iff.1 hr
    unfold sumL at hr
    split at hr
    · rename_i x y
      obtain ⟨a, ha, hr⟩ := Option.bind_eq_some_iff.1 hr
      obtain ⟨b, hb, hr⟩ := Option.bind_eq_some_iff.1 hr
      obtain rfl := asS_some ha
      obtain rfl := asS_some hb
      unfold sumT at hr
      obtain ⟨hz, hr⟩ := cond_some hr
      rw [sumR_eq, sumK_eq, cat_append] at hr
      cases hr
      simp only [Bool.and_eq_true] at hz
      obtain ⟨hz1, hz2⟩ := hz
      rw [lenL_eq] at hz1 hz2
      have hz1 : a.length ≤ 1073741823 := by simpa [Nat.blt] using hz1
      have hz2 : b.length ≤ 1073741823 := by simpa [Nat.blt] using hz2
      obtain ⟨z, cs, fz, hB⟩ := hW.bk hk
      have hext := hB.fx hkf
      obtain ⟨z', us, hm, hul, hrl, hcells⟩ := loadN_ok hW hl
      rw [hB.hm] at hm; cases hm
      obtain ⟨A, rfl, hA⟩ : ∃ A, Vs = #[A] ∧ VR m (.slice s.b s.o s.n s.c s.ex) A := by
        obtain ⟨L, hL⟩ : ∃ L, Vs.toList = L := ⟨_, rfl⟩
        rw [hL] at hvs
        cases hvs with
        | cons h1 h2 => cases h2 with
          | nil => exact ⟨_, Array.toList_inj.1 hL, h1⟩
      rw [hn, hcc] at hA
      obtain rfl : A = .slice (some ⟨z.blk, z.sh + s.o, none⟩) 2 2 := by
        cases hA with
        | slice o n c ex h =>
          rw [hB.hm] at h; cases h
          rw [hext]; simp
      obtain ⟨u1, u2, rfl, hu1, hu2⟩ : ∃ u1 u2, us = [u1, u2] ∧ VR m (.str a) u1 ∧ VR m (.str b) u2 := by
        cases hrl with
        | cons h1 h2 => cases h2 with
          | cons h3 h4 => cases h4 with
            | nil => exact ⟨_, _, rfl, h1, h3⟩
      obtain rfl := hu1.str_inv
      obtain rfl := hu2.str_inv
      have hlt := (Array.getElem?_eq_some_iff.1 hB.hp).1
      refine (psSum (Sat.start w) _ a b (fun w' h' => ⟨_, _, rfl, (fun e => by cases e), Nat.le_refl _, by unfold maxLen; omega, fun j u hj => ⟨_, _, rfl, ?_⟩⟩) (by omega) (by omega)).mono ?_
      · rw [h'.old_cell hlt]
        exact hcells j u hj
      · rintro e w' ⟨rfl, h'⟩
        exact ⟨_, m, rfl, (hW.below h'.below).1, .int _ _, (hW.below h'.below).2⟩
    · cases hr
  · cases hr
end Ex
end Go.Proofs.YtajoljoegbeiiaaGreatDoor
