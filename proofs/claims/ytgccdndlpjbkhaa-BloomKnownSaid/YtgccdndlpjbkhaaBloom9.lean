/-
  Bloom: works, and the laws BloomMakes, BloomAsks: the walks.
-/
import Derived.Test.YtgccdndlpjbkhaaBloom8
import Derived.Deep.LoopGhost
import Derived.Deep.QuietTactic
import Derived.BigQuiet
import Derived.Deep.RegionHeld3
namespace Go.Proofs.Ytgccdndlpjbkhaa
open Go.RowKit
attribute [local go_sem] Oper.semAt_some
set_option linter.unusedVariables false
theorem okF_iff (f : ByteArray) : okF f ↔ 9 ≤ f.size ∧ f.size ≤ 131073 ∧ 1 ≤ byteAt f 0 ∧ byteAt f 0 ≤ 8 := by
  unfold okF
  constructor
  · rintro ⟨h, h1, h2, h3⟩
    rw [byteAt_in (by omega)]
    exact ⟨h, h1, by omega, by omega⟩
  · rintro ⟨h, h1, h2, h3⟩
    rw [byteAt_in (by omega)] at h2 h3
    exact ⟨h, h1, by omega, by omega⟩
def okB (f : ByteArray) : Bool := decide (9 ≤ f.size ∧ f.size ≤ 131073 ∧ 1 ≤ byteAt f 0 ∧ byteAt f 0 ≤ 8)
def hasB (f s : ByteArray) : Bool := if okB f then (plcs (hA s) (hB s) (8 * (f.size - 1) : Nat) (byteAt f 0).toNat).all (fun p => !clr f p) else true
theorem has_eq (f s : ByteArray) : has f s = hasB f s := by
  unfold has hasB okB
  simp only [okF_iff, decide_eq_true_eq]
theorem chk_eq (f : ByteArray) : chk f = if okB f then 0 else 4 := by
  unfold chk okB
  simp only [okF_iff, decide_eq_true_eq]
theorem strs_none (w : World) : reads w (.slice none 0 0) 0 (strs []) := ⟨none, 0, rfl, fun _ => ⟨rfl, rfl⟩, Nat.le_refl _, Nat.zero_le _, fun j u e => by simp [strs] at e⟩
section
variable {B w : World} {L : List HP}
set_option maxHeartbeats 1000000 in
set_option maxRecDepth 100000 in
theorem works_any (h : Sat B L w) : Calls Try.prog 29 #[] w fun e w' => e = .returned (.bool true) ∧ Sat B L w' := by
  have m1 := bmake_any [] none 0 0 10 rfl (by simp) h (fun w' _ => strs_none w')
  rw [show mkF [] 10 = ⟨#[6, 0, 0, 0, 0, 0, 0, 0, 0]⟩ by decide +kernel, show mkE [] 10 = 0 by decide +kernel] at m1
  obtain ⟨f, hf⟩ : ∃ f, mkF [⟨#[97]⟩, ⟨#[98]⟩] 10 = f := ⟨_, rfl⟩
  have z9 : f.size = 9 := by rw [← hf]; decide +kernel
  have x1 : has f ⟨#[97]⟩ = true := by rw [← hf, has_eq]; decide +kernel
  have x2 : has f ⟨#[98]⟩ = true := by rw [← hf, has_eq]; decide +kernel
  have x3 : has ⟨#[6, 0, 0, 0, 0, 0, 0, 0, 0]⟩ ⟨#[97]⟩ = false := by rw [has_eq]; decide +kernel
  have Hf := Lib.hid hf
  have Hx := Lib.hid (And.intro x1 (And.intro x2 x3))
  clear hf x1 x2 x3
  go_enter Try.func29, Try.ntmps29
  go_wp2_with fail
  refine m1.mono ?_
  rintro e w1 ⟨rfl, h1⟩
  clear m1 h
  go_wp2_with fail
  have m2 := bmake_any (L := pt w1.heap.size (.cells #[.string ⟨#[97]⟩, .string ⟨#[98]⟩] 9) :: L) [⟨#[97]⟩, ⟨#[98]⟩] (some ⟨w1.heap.size, 0, none⟩) 2 2 10 rfl (by decide) (h1.alloc _) (fun w' h' => by
    have := (h'.pt_row (size := 1) 2 2 0 [.string ⟨#[97]⟩, .string ⟨#[98]⟩] rfl (by simp [Value.oneCell']) (by omega) (by unfold maxLen; omega) (by simp) (by simp)).row_reads
    simpa [strs] using this)
  rw [Hf.out, show mkE [⟨#[97]⟩, ⟨#[98]⟩] 10 = 0 by decide +kernel] at m2
  refine m2.mono ?_
  rintro e w2 ⟨rfl, h2⟩
  clear m2 h1
  go_wp2_with fail
  have b1 := bhas (L := pt w1.heap.size (.cells #[.string ⟨#[97]⟩, .string ⟨#[98]⟩] 9) :: L) f ⟨#[97]⟩ (by omega) (by decide) h2
  rw [Hx.out.1] at b1
  refine b1.mono ?_
  rintro e w3 ⟨rfl, h3⟩
  clear b1 h2
  go_wp2_with fail
  have b1 := bhas (L := pt w1.heap.size (.cells #[.string ⟨#[97]⟩, .string ⟨#[98]⟩] 9) :: L) f ⟨#[98]⟩ (by omega) (by decide) h3
  rw [Hx.out.2.1] at b1
  refine b1.mono ?_
  rintro e w4 ⟨rfl, h4⟩
  clear b1 h3
  go_wp2_with fail
  have b1 := bhas (L := pt w1.heap.size (.cells #[.string ⟨#[97]⟩, .string ⟨#[98]⟩] 9) :: L) ⟨#[6, 0, 0, 0, 0, 0, 0, 0, 0]⟩ ⟨#[97]⟩ (by decide) (by decide) h4
  rw [Hx.out.2.2] at b1
  refine b1.mono ?_
  rintro e w5 ⟨rfl, h5⟩
  clear b1 h4
  go_wp2_with fail
  go_ret
  exact ⟨rfl, h5.drop⟩

set_option maxHeartbeats 1000000 in
set_option maxRecDepth 100000 in
theorem asks_law (B : World) (f s : ByteArray) (hf : f.size ≤ 9223372036854775807) (hs : s.size ≤ 9223372036854775807) :
    Calls Try.prog 8 #[.string f, .string s] B fun e w' => e = .returned (.bool true) ∧ Below B.heap.size B w' := by
  have h := Sat.start B
  obtain ⟨q, hq⟩ : ∃ q, min f.size 3000 = q := ⟨_, rfl⟩
  have hq1 : (if (3000 : Int) < (f.size : Int) then (3000 : Int) else f.size) = q := by split <;> omega
  have hq2 : q ≤ f.size := by omega
  obtain ⟨r, hr⟩ : ∃ r, min s.size 1000 = r := ⟨_, rfl⟩
  have hr1 : (if (1000 : Int) < (s.size : Int) then (1000 : Int) else s.size) = r := by split <;> omega
  have hr2 : r ≤ s.size := by omega
  clear hq hr
  obtain ⟨f2, hf2⟩ : ∃ f2, f.extract 0 q = f2 := ⟨_, rfl⟩
  obtain ⟨s2, hs2⟩ : ∃ s2, s.extract 0 r = s2 := ⟨_, rfl⟩
  have hf3 : f2.size ≤ 9223372036854775807 := by rw [← hf2, ByteArray.size_extract]; omega
  have hs3 : s2.size ≤ 9223372036854775807 := by rw [← hs2, ByteArray.size_extract]; omega
  go_enter Try.func8, Try.ntmps8
  have Hf3 := Lib.hid hf3
  have Hs3 := Lib.hid hs3
  clear hf3 hs3
  go_wp2_with fail
  refine (check_any _ f2 Hf3.out).mono ?_
  rintro e w1 ⟨rfl, rfl⟩
  go_wp2_with fail
  refine (rcheck_any _ f2 Hf3.out).mono ?_
  rintro e w1 ⟨rfl, rfl⟩
  go_wp2_with fail
  refine (bhas f2 s2 Hf3.out Hs3.out h).mono ?_
  rintro e w1 ⟨rfl, h1⟩
  go_wp2_with fail
  refine (rhas f2 s2 Hf3.out Hs3.out h1).mono ?_
  rintro e w2 ⟨rfl, h2⟩
  clear h h1
  go_wp2_with fail
  refine (works_any h2).mono ?_
  rintro e w3 ⟨rfl, h3⟩
  go_wp2_with fail
  go_ret
  exact ⟨rfl, h3.below⟩

theorem row_strs_at {v : Value} {n : Nat} {ks : List ByteArray} (h : Sat B (row 9 1 v n (strs ks) :: L) w) (j : Nat) (hj : j < ks.length) :
    ∃ g off c, v = .slice (some ⟨g, off, none⟩) n c ∧ w.cell? ⟨g, off + j, none⟩ = some (.string (ks[j])) := by
  obtain ⟨a, c, hv, _, _, _, hc⟩ := h.row_reads
  obtain ⟨g, off, ha, hcc⟩ := hc j _ (by rw [strs, List.getElem?_map, List.getElem?_eq_getElem hj]; rfl)
  subst ha
  exact ⟨g, off, c, hv, hcc⟩
theorem cutS_size (s : ByteArray) : (cutS s).size ≤ 100 := by rw [cutS, ByteArray.size_extract]; omega
theorem cutK_size (keys : List ByteArray) : ∀ s ∈ cutK keys, s.size ≤ 9223372036854775807 := by
  intro s hs
  obtain ⟨t, _, rfl⟩ := List.mem_map.1 hs
  have := cutS_size t; omega
theorem cutK_len (keys : List ByteArray) : (cutK keys).length ≤ 200 := by rw [cutK, List.length_map, List.length_take]; omega

set_option maxHeartbeats 1000000 in
set_option maxRecDepth 100000 in
theorem makes_law (B : World) (keys : List ByteArray) (a : Option Addr) (n c : Nat) (b : Int) (hkn : keys.length = n) (hks : ∀ s ∈ keys, s.size ≤ 9223372036854775807) (hr : reads B (.slice a n c) n (strs keys)) :
    Calls Try.prog 7 #[.slice a n c, .int .i64 b] B fun e w' => e = .returned (.bool true) ∧ Below B.heap.size B w' := by
  have h := Sat.start B
  go_enter Try.func7, Try.ntmps7
  go_wp2_with fail
  refine (cut_any keys a n c hkn hks h (fun w' h' => h'.reads hr)).mono ?_
  rintro e w1 ⟨a1, c1, rfl, h1⟩
  go_wp2_with fail
  refine (cut_any keys a n c hkn hks h1 (fun w' h' => h'.reads hr)).mono ?_
  rintro e w2 ⟨a2, c2, rfl, h2⟩
  obtain ⟨ks, hks'⟩ : ∃ ks, cutK keys = ks := ⟨_, rfl⟩
  have Hz := Lib.hid (show ∀ s ∈ ks, s.size ≤ 9223372036854775807 by rw [← hks']; exact cutK_size keys)
  have hl : ks.length ≤ 200 := by rw [← hks']; exact cutK_len keys
  rw [hks'] at h1 h2 ⊢
  obtain ⟨m, hm⟩ : ∃ m, ks.length = m := ⟨_, rfl⟩
  have Hm := Lib.hid hm
  rw [hm] at h2 hl ⊢
  clear h h1 hkn hks hr hks' hm
  go_wp2_with fail
  refine (bmake_any ks a1 m c1 b Hm.out Hz.out h2 (fun w' h' => h'.swap.row_reads)).mono ?_
  rintro e w3 ⟨rfl, h3⟩
  go_wp2_with fail
  refine (rmake_any ks a2 m c2 b Hm.out Hz.out h3 (fun w' h' => h'.row_reads)).mono ?_
  rintro e w4 ⟨rfl, h4⟩
  obtain ⟨f, hf⟩ : ∃ f, mkF ks b = f := ⟨_, rfl⟩
  obtain ⟨x, hx⟩ : ∃ x, mkE ks b = x := ⟨_, rfl⟩
  rw [hf, hx]
  clear h2 h3 hf hx
  go_wp2_with fail
  go_loopg [11] m (fun gh i wr => ∃ (j : Nat), j + gh ≤ m ∧ m ≤ j + gh ∧ i = .int .i64 j ∧ Sat B [row 9 1 (.slice a2 m c2) m (strs ks), row 9 1 (.slice a1 m c1) m (strs ks)] wr)
  case atStart => exact ⟨0, by omega, by omega, rfl, h4⟩
  case round =>
    obtain ⟨j, hg1, hg2, rfl, hs1⟩ := hrel
    clear h4
    by_cases hj : j < m
    · obtain ⟨g1, o1, _, he1, q1⟩ := row_strs_at hs1 j (by rw [Hm.out]; exact hj)
      obtain ⟨g2, o2, _, he2, q2⟩ := row_strs_at hs1.swap j (by rw [Hm.out]; exact hj)
      cases he1
      cases he2
      have l1 := reads_len hs1.row_reads
      have l2 := reads_len hs1.swap.row_reads
      obtain ⟨_, l11, l12⟩ := l1
      obtain ⟨_, l21, l22⟩ := l2
      go_wp2_with fail
      go_region
      all_goals
        go_wp2_with fail
        go_roundg (gk - 1)
        case measure => omega
        case rel => exact ⟨j + 1, by omega, by omega, by go_num, hs1.drew⟩
    · go_wp2_with fail
      refine (works_any hs1).mono ?_
      rintro e w5 ⟨rfl, h5⟩
      go_wp2_with fail
      go_ret
      exact ⟨rfl, h5.below⟩
end
end Go.Proofs.Ytgccdndlpjbkhaa
