/-
  Bloom: BloomMore: the walk.
-/
import Derived.Test.YtgccdndlpjbkhaaBloomN
namespace Go.Proofs.Ytgccdndlpjbkhaa
open Go.RowKit
attribute [local go_sem] Oper.semAt_some
set_option linter.unusedVariables false
section
variable {B w : World} {L : List HP}
set_option maxHeartbeats 1000000 in
set_option maxRecDepth 100000 in
theorem more_law (B : World) (keys : List ByteArray) (a : Option Addr) (n c : Nat) (b t : Int) (hkn : keys.length = n) (hks : ∀ s ∈ keys, s.size ≤ 9223372036854775807) (hr : reads B (.slice a n c) n (strs keys)) :
    Calls Try.prog 10 #[.slice a n c, .int .i64 b, .int .i64 t] B fun e w' => e = .returned (.bool true) ∧ Below B.heap.size B w' := by
  have h := Sat.start B
  obtain ⟨t1, ht1⟩ : ∃ t1, b.tmod 32 = t1 := ⟨_, rfl⟩
  have t2 := tmod_bound b (n := 32) (by omega)
  rw [ht1] at t2
  obtain ⟨t3, t4⟩ := t2
  obtain ⟨t5, ht5⟩ : ∃ t5, (t1 + 32) % 32 = t5 := ⟨_, rfl⟩
  have t6 : 0 ≤ t5 ∧ t5 < 32 := by omega
  obtain ⟨t7, t8⟩ := t6
  have t9 : (t1 + 32).tmod 32 = t5 := by rw [Int.tmod_eq_emod_of_nonneg (by omega)]; exact ht5
  obtain ⟨N, hN⟩ := Int.eq_ofNat_of_zero_le (show 0 ≤ 1 + t5 by omega)
  have hN1 : 1 ≤ N := by omega
  have hN2 : N ≤ 32 := by omega
  go_enter Try.func10, Try.ntmps10
  go_wp2_with fail
  refine (cut_any keys a n c hkn hks h (fun w' h' => h'.reads hr)).mono ?_
  rintro e w1 ⟨a1, c1, rfl, h1⟩
  obtain ⟨ks, hks'⟩ : ∃ ks, cutK keys = ks := ⟨_, rfl⟩
  have Hz := Lib.hid (show ∀ s ∈ ks, s.size ≤ 9223372036854775807 by rw [← hks']; exact cutK_size keys)
  have hl : ks.length ≤ 200 := by rw [← hks']; exact cutK_len keys
  rw [hks'] at h1 ⊢
  obtain ⟨j, hm⟩ : ∃ m, ks.length = m := ⟨_, rfl⟩
  have Hm := Lib.hid hm
  rw [hm] at h1 hl ⊢
  clear h hkn hks hr hks' hm
  by_cases hm0 : j = 0
  · go_wp2_with fail
    refine (works_any h1).mono ?_
    rintro e w5 ⟨rfl, h5⟩
    go_wp2_with fail
    go_ret
    exact ⟨rfl, h5.below⟩
  · obtain ⟨u1, hu1⟩ : ∃ u1, t.tmod (j : Int) = u1 := ⟨_, rfl⟩
    have u2 := tmod_bound t (n := (j : Int)) (by omega)
    rw [hu1] at u2
    obtain ⟨u3, u4⟩ := u2
    obtain ⟨u5, hu5⟩ : ∃ u5, (u1 + j) % (j : Int) = u5 := ⟨_, rfl⟩
    have u6 : 0 ≤ u5 ∧ u5 < j := by rw [← hu5]; exact ⟨Int.emod_nonneg _ (by omega), Int.emod_lt_of_pos _ (by omega)⟩
    obtain ⟨u7, u8⟩ := u6
    have u9 : (u1 + j).tmod (j : Int) = u5 := by rw [Int.tmod_eq_emod_of_nonneg (by omega)]; exact hu5
    obtain ⟨y, rfl⟩ := Int.eq_ofNat_of_zero_le u7
    have hr1 := h1.row_reads
    have l1 := reads_len hr1
    obtain ⟨l10, l11, l12⟩ := l1
    obtain ⟨g, off, _, he, -⟩ := row_strs_at h1 0 (by rw [Hm.out]; omega)
    cases he
    have hyj : y < j := by omega
    have hk0 : 0 < ks.length := by rw [Hm.out]; omega
    obtain ⟨s0, hs0⟩ : ∃ s0, ks[0]'hk0 = s0 := ⟨_, rfl⟩
    have hS1 := h1.row_nil 9 1
    have hd : (strs ks).length = j * 1 := by rw [strs, List.length_map, Hm.out, Nat.mul_one]
    have b1 : j ≤ maxLen := by unfold maxLen; omega
    have b2 : j * 16 ≤ 140737488355328 := by omega
    have C1 : ∀ (a2 : Option Addr) (c2 : Nat) (w5 : World), Sat B [row 9 1 (.slice a2 j c2) j (strs ks), row 9 1 (.slice (some ⟨g, off, none⟩) j c1) j (strs ks)] w5 →
        w5.cell? ⟨g, off, none⟩ = some (.string s0) ∧ j ≤ c2 ∧ ∃ g2 off2, a2 = some ⟨g2, off2, none⟩ ∧ (w5.cell? ⟨g2, off2 + y, none⟩ = some (.string (ks[y]'(by rw [Hm.out]; exact hyj))) ∧ w5.frozen? ⟨g2, off2 + y, none⟩ = false) := by
      intro a2 c2 w5 h5
      obtain ⟨g', o', _, he, q⟩ := row_strs_at h5.swap 0 (by rw [Hm.out]; omega)
      cases he
      rw [hs0] at q
      obtain ⟨g2, o2, ha2, q2, q3, -, -⟩ := h5.row_cell y (by rw [Nat.mul_one]; exact hyj)
      rw [strs, List.getElem?_map, List.getElem?_eq_getElem (by rw [Hm.out]; exact hyj)] at q2
      exact ⟨q, (reads_len h5.row_reads).2.1, g2, o2, ha2, q2, q3⟩
    have HC1 := Lib.hid C1
    have HS0 := Lib.hid hs0
    have E1 := Lib.hid (And.intro hd (And.intro b1 b2))
    clear hd b1 b2 C1 hs0
    go_wp2_with (at_builtin; refine wpList_append_to rfl string_elem (.tmp 37) (.tmp 38) rfl _ _ 0 j j [] (strs ks) (strs ks) rfl rfl hS1 hr1 E1.out.1 (strs_one _) (by omega) rfl E1.out.2.1 E1.out.2.2 ?_; intro a2 c2 w5 h5; obtain ⟨k0, k1, g2, off2, rfl, k2, k3⟩ := HC1.out _ _ _ h5; go_frame)
    have h6 := h5.row_set y (by rw [Nat.mul_one]; exact hyj) (u := .string s0) rfl
    have e6 : (strs ks).set y (.string s0) = strs (ks.set y s0) := by rw [strs, strs, List.map_set]
    rw [e6] at h6
    obtain ⟨w6, hw6⟩ : ∃ w6, w5.setCell ⟨g2, off2 + y, none⟩ (.string s0) = w6 := ⟨_, rfl⟩
    rw [hw6] at h6 ⊢
    obtain ⟨k2s, hk2⟩ : ∃ k2s, ks.set y s0 = k2s := ⟨_, rfl⟩
    have Hm2 := Lib.hid (show k2s.length = j by rw [← hk2, List.length_set]; exact Hm.out)
    have hs0 : s0 ∈ ks := by rw [← HS0.out]; exact List.getElem_mem hk0
    have Hsub := Lib.hid (show ∀ s ∈ k2s, s ∈ ks by
      intro s hs
      rw [← hk2] at hs
      rcases List.mem_or_eq_of_mem_set hs with h | rfl
      · exact h
      · exact hs0)
    rw [hk2] at h6
    clear hw6 e6 k0 k2 k3 h5 hr1 hS1 h1 hk2 hs0
    refine (bmake ks _ j _ N hN1 hN2 (by omega) Hm.out Hz.out h6 (fun w' h' => h'.swap.row_reads)).mono ?_
    rintro e w7 ⟨rfl, h7⟩
    go_wp2_with fail
    refine (bmake k2s _ j _ N hN1 hN2 (by omega) Hm2.out (fun s hs => Hz.out s (Hsub.out s hs)) h7 (fun w' h' => h'.row_reads)).mono ?_
    rintro e w8 ⟨rfl, h8⟩
    obtain ⟨Z, hZ⟩ : ∃ Z, szOf N j = Z := ⟨_, rfl⟩
    have hZ1 := szOf_le (b := N) (n := j) hN2 (by omega)
    rw [hZ] at hZ1
    obtain ⟨z1, z2⟩ := hZ1
    obtain ⟨Z1, hZ1⟩ : ∃ Z1, 1 + Z = Z1 := ⟨_, rfl⟩
    have z0 : ((Z1 : Int) == 0) = false := by
      have : (Z1 : Int) ≠ 0 := by omega
      simpa using this
    have f1z : (filterOf ks N).size = Z1 := by rw [filterOf_size, Hm.out, hZ, hZ1]
    have f2z : (filterOf k2s N).size = Z1 := by rw [filterOf_size, Hm2.out, hZ, hZ1]
    have f1b := filterOf_first ks N
    have f2b := filterOf_first k2s N
    rw [byteAt_in (by omega)] at f1b f2b
    have fw := fun i (hi : i < Z) => filterOf_fewer (k1 := k2s) (k2 := ks) N (by rw [Hm.out, Hm2.out]) Hsub.out i (by rw [Hm2.out, hZ]; exact hi)
    obtain ⟨f1, hf1⟩ : ∃ f1, filterOf ks N = f1 := ⟨_, rfl⟩
    obtain ⟨f2, hf2⟩ : ∃ f2, filterOf k2s N = f2 := ⟨_, rfl⟩
    simp only [hf1, hf2] at f1z f2z f1b f2b fw ⊢
    have FW := Lib.hid fw
    obtain ⟨K, hK⟩ : ∃ K, kOf N = K := ⟨_, rfl⟩
    rw [hK] at f1b f2b
    obtain ⟨p1, g1b⟩ : ∃ p : 0 < f1.size, ((f1[0]'p).toNat : Int) = K := ⟨by omega, f1b⟩
    obtain ⟨p2, g2b⟩ : ∃ p : 0 < f2.size, ((f2[0]'p).toNat : Int) = K := ⟨by omega, f2b⟩
    clear f1b f2b
    clear hf1 hf2 fw hK hZ h7 h6
    go_wp2_with fail
    go_quiet (fail)
    all_goals
      go_wp2_with fail
      go_loopg [15] Z (fun gh i wr => ∃ (l : Nat), l + gh ≤ Z + 1 ∧ Z + 1 ≤ l + gh ∧ 1 ≤ l ∧ i = .int .i64 l ∧ Sat B [row 9 1 (.slice (some ⟨g2, off2, none⟩) j c2) j (strs k2s), row 9 1 (.slice (some ⟨g, off, none⟩) j c1) j (strs ks)] wr)
      case atStart => exact ⟨1, by omega, by omega, by omega, rfl, h8.drewN nq⟩
      case round =>
        obtain ⟨l, hg1, hg2, hl1, rfl, hs1⟩ := hrel
        clear h8
        by_cases hlz : l < Z + 1
        · have q1 : l < f1.size := by omega
          have q2 : l < f2.size := by omega
          have q3 := FW.out (l - 1) (by omega)
          rw [show l - 1 + 1 = l by omega, byteAt_in q1, byteAt_in q2] at q3
          go_wp2_with fail
          go_quiet (fail)
          all_goals
            go_wp2_with fail
            go_roundg (gk - 1)
            case measure => omega
            case rel => exact ⟨l + 1, by omega, by omega, by omega, by go_num, hs1.drewN nq⟩
        · go_wp2_with fail
          refine (works_any hs1).mono ?_
          rintro e w9 ⟨rfl, h9⟩
          go_wp2_with fail
          go_ret
          exact ⟨rfl, h9.below⟩
end
end Go.Proofs.Ytgccdndlpjbkhaa
