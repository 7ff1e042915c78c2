/-
  Bloom: BloomNever: the walk.
-/
import Derived.Test.YtgccdndlpjbkhaaBloomP
namespace Go.Proofs.Ytgccdndlpjbkhaa
open Go.RowKit
attribute [local go_sem] Oper.semAt_some
set_option linter.unusedVariables false
section
variable {B w : World} {L : List HP}
theorem tmod_bound (b : Int) {n : Int} (hn : 0 < n) : -n < b.tmod n ∧ b.tmod n < n := by
  have h1 := Int.tmod_lt_of_pos b hn
  have h2 := Int.tmod_lt_of_pos (-b) hn
  rw [Int.neg_tmod] at h2
  omega
set_option maxHeartbeats 1000000 in
set_option maxRecDepth 100000 in
theorem never_law (B : World) (keys : List ByteArray) (a : Option Addr) (n c : Nat) (b t : Int) (hkn : keys.length = n) (hks : ∀ s ∈ keys, s.size ≤ 9223372036854775807) (hr : reads B (.slice a n c) n (strs keys)) :
    Calls Try.prog 9 #[.slice a n c, .int .i64 b, .int .i64 t] B fun e w' => e = .returned (.bool true) ∧ Below B.heap.size B w' := by
  have h := Sat.start B
  obtain ⟨t1, ht1⟩ : ∃ t1, b.tmod 32 = t1 := ⟨_, rfl⟩
  have t2 := tmod_bound b (n := 32) (by omega)
  rw [ht1] at t2
  obtain ⟨t3, t4⟩ := t2
  obtain ⟨t5, ht5⟩ : ∃ t5, (t1 + 32) % 32 = t5 := ⟨_, rfl⟩
  have t6 : 0 ≤ t5 ∧ t5 < 32 := by omega
  obtain ⟨t7, t8⟩ := t6
  have t9 : (t1 + 32).tmod 32 = t5 := by rw [Int.tmod_eq_emod_of_nonneg (by omega)]; exact ht5
  obtain ⟨N, hN⟩ := Int.eq_ofNat_of_zero_le (show 0 ≤ 1 + t5 by omega)
  have hN1 : 1 ≤ N := by omega
  have hN2 : N ≤ 32 := by omega
  go_enter Try.func9, Try.ntmps9
  go_wp2_with fail
  refine (cut_any keys a n c hkn hks h (fun w' h' => h'.reads hr)).mono ?_
  rintro e w1 ⟨a1, c1, rfl, h1⟩
  obtain ⟨ks, hks'⟩ : ∃ ks, cutK keys = ks := ⟨_, rfl⟩
  have Hz := Lib.hid (show ∀ s ∈ ks, s.size ≤ 9223372036854775807 by rw [← hks']; exact cutK_size keys)
  have hl : ks.length ≤ 200 := by rw [← hks']; exact cutK_len keys
  rw [hks'] at h1 ⊢
  obtain ⟨m, hm⟩ : ∃ m, ks.length = m := ⟨_, rfl⟩
  have Hm := Lib.hid hm
  rw [hm] at h1 hl ⊢
  clear h hkn hks hr hks' hm
  go_wp2_with fail
  refine (bmake ks a1 m c1 N hN1 hN2 (by omega) Hm.out Hz.out h1 (fun w' h' => h'.row_reads)).mono ?_
  rintro e w2 ⟨rfl, h2⟩
  obtain ⟨f, hf⟩ : ∃ f, filterOf ks N = f := ⟨_, rfl⟩
  have hfz : f.size ≤ 9223372036854775807 := by
    have := szOf_le (b := N) (n := ks.length) hN2 (by rw [Hm.out]; omega)
    rw [← hf, filterOf_size]; omega
  have hck : chk f = 0 := by rw [chk, if_pos]; rw [← hf]; exact filterOf_ok ks hN2 (by rw [Hm.out]; omega)
  have Hh := Lib.hid (show ∀ s ∈ ks, has f s = true by rw [← hf]; exact fun s hs => filterOf_has ks hN2 (by rw [Hm.out]; omega) s hs)
  rw [hf]
  have Hf := Lib.hid hf
  have Hfz := Lib.hid hfz
  have hc := fun w => check_any w f hfz
  rw [hck] at hc
  have Hc := Lib.hid hc
  clear hf hfz hck hc h1
  go_wp2_with fail
  refine (Hc.out _).mono ?_
  rintro e w3 ⟨rfl, rfl⟩
  go_wp2_with fail
  go_loopg [11] m (fun gh i wr => ∃ (j : Nat), j + gh ≤ m ∧ m ≤ j + gh ∧ i = .int .i64 j ∧ Sat B [row 9 1 (.slice a1 m c1) m (strs ks)] wr)
  case atStart => exact ⟨0, by omega, by omega, rfl, h2⟩
  case round =>
    obtain ⟨j, hg1, hg2, rfl, hs1⟩ := hrel
    clear h2
    by_cases hj : j < m
    · obtain ⟨g1, o1, _, he1, q1⟩ := row_strs_at hs1 j (by rw [Hm.out]; exact hj)
      cases he1
      have l1 := reads_len hs1.row_reads
      obtain ⟨_, l11, l12⟩ := l1
      have hm' := List.getElem_mem (by rw [Hm.out]; exact hj : j < ks.length)
      have hz := Hz.out _ hm'
      have hh := Hh.out _ hm'
      obtain ⟨s, hs⟩ : ∃ s, ks[j]'(by rw [Hm.out]; exact hj) = s := ⟨_, rfl⟩
      rw [hs] at q1 hz hh
      have Hhh := Lib.hid hh
      clear hs hh hm'
      go_wp2_with fail
      refine (bhas f s Hfz.out hz hs1).mono ?_
      rw [Hhh.out]
      rintro e w4 ⟨rfl, h4⟩
      go_wp2_with fail
      go_roundg (gk - 1)
      case measure => omega
      case rel => exact ⟨j + 1, by omega, by omega, by go_num, h4⟩
    · obtain rfl : j = m := by omega
      by_cases hm0 : j = 0
      · go_wp2_with fail
        refine (works_any hs1).mono ?_
        rintro e w5 ⟨rfl, h5⟩
        go_wp2_with fail
        go_ret
        exact ⟨rfl, h5.below⟩
      · obtain ⟨u1, hu1⟩ : ∃ u1, t.tmod (j : Int) = u1 := ⟨_, rfl⟩
        have u2 := tmod_bound t (n := (j : Int)) (by omega)
        rw [hu1] at u2
        obtain ⟨u3, u4⟩ := u2
        obtain ⟨u5, hu5⟩ : ∃ u5, (u1 + j) % (j : Int) = u5 := ⟨_, rfl⟩
        have u6 : 0 ≤ u5 ∧ u5 < j := by rw [← hu5]; exact ⟨Int.emod_nonneg _ (by omega), Int.emod_lt_of_pos _ (by omega)⟩
        obtain ⟨u7, u8⟩ := u6
        have u9 : (u1 + j).tmod (j : Int) = u5 := by rw [Int.tmod_eq_emod_of_nonneg (by omega)]; exact hu5
        obtain ⟨y, rfl⟩ := Int.eq_ofNat_of_zero_le u7
        have hr1 := hs1.row_reads
        have l1 := reads_len hr1
        obtain ⟨l10, l11, l12⟩ := l1
        obtain ⟨g, off, _, he, -⟩ := row_strs_at hs1 0 (by rw [Hm.out]; omega)
        cases he
        have R1 : reads wr (.slice (some ⟨g, off + y, none⟩) (j - y) (c1 - y)) (j - y) (strs (ks.drop y)) := by
          have := reads_drop hr1 y 1 (by omega)
          rw [Nat.mul_one] at this
          rw [strs, List.map_drop]; exact this
        have hS1 := hs1.row_nil 9 1
        have hd : (strs (ks.drop y)).length = (j - y) * 1 := by rw [strs, List.length_map, List.length_drop, Hm.out, Nat.mul_one]
        have b1 : j - y ≤ maxLen := by unfold maxLen; omega
        have b2 : (j - y) * 16 ≤ 140737488355328 := by omega
        have hyc : ¬ (c1 = y) := by omega
        have hyj : y < j := by omega
        have E1 := Lib.hid (And.intro hd (And.intro b1 b2))
        clear hr1 hd b1 b2 hs1
        have R2 : ∀ (a2 : Option Addr) (c2 : Nat) (w5 : World), Sat B [row 9 1 (.slice a2 (j - y) c2) (j - y) (strs (ks.drop y)), row 9 1 (.slice (some ⟨g, off, none⟩) j c1) j (strs ks)] w5 →
            reads w5 (.slice (some ⟨g, off, none⟩) y c1) y (strs (ks.take y)) := by
          intro a2 c2 w5 h5
          have := reads_take h5.swap.row_reads y y (by omega)
          rw [strs, List.map_take]; exact this
        have ht : (strs (ks.take y)).length = y * 1 := by rw [strs, List.length_map, List.length_take, Hm.out]; omega
        have E2 := Lib.hid (And.intro ht (show j ≤ maxLen ∧ j * 16 ≤ 140737488355328 by unfold maxLen; omega))
        have hjy : j - y + y = j := by omega
        clear ht
        go_wp2_with (first
          | (at_builtin; refine wpList_append_to rfl string_elem (.tmp 63) (.tmp 66) rfl _ _ 0 (j - y) (j - y) [] (strs (ks.drop y)) (strs (ks.drop y)) rfl rfl hS1 R1 E1.out.1 (strs_one _) (by omega) rfl E1.out.2.1 E1.out.2.2 ?_; intro a2 c2 w5 h5; go_frame)
          | (at_builtin; refine wpList_append_to rfl string_elem (.tmp 68) (.tmp 71) rfl _ _ (j - y) y j (strs (ks.drop y)) (strs (ks.take y)) (strs (ks.drop y ++ ks.take y)) rfl rfl ‹Sat B [row 9 1 (.slice _ (j - y) _) _ _, _] _› (R2 _ _ _ ‹Sat B [row 9 1 (.slice _ (j - y) _) _ _, _] _›) E2.out.1 (strs_one _) (by omega) (by simp [strs]) E2.out.2.1 E2.out.2.2 ?_; intro a3 c3 w6 h6; go_frame))
        have h6 := ‹Sat B [row 9 1 (.slice _ j _) j (strs (ks.drop y ++ ks.take y)), _] _›
        refine (bmake (ks.drop y ++ ks.take y) _ j _ N hN1 hN2 (by omega) (by rw [List.length_append, List.length_drop, List.length_take, Hm.out]; omega) (fun s hs => Hz.out s (by
          rcases List.mem_append.1 hs with hs | hs
          · exact List.mem_of_mem_drop hs
          · exact List.mem_of_mem_take hs)) h6 (fun w' h' => h'.row_reads)).mono ?_
        rw [filterOf_turn, Hf.out]
        rintro e w7 ⟨rfl, h7⟩
        go_wp2_with fail
        refine (works_any h7).mono ?_
        rintro e w8 ⟨rfl, h8⟩
        go_wp2_with fail
        go_ret
        exact ⟨rfl, h8.below⟩
end
end Go.Proofs.Ytgccdndlpjbkhaa
