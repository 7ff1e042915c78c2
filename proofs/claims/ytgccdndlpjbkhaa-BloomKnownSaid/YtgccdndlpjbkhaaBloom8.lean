/-
  Bloom: what Make answers to any keys and bits; cut.
-/
import Derived.Test.YtgccdndlpjbkhaaBloom7
namespace Go.Proofs.Ytgccdndlpjbkhaa
open Go.RowKit
attribute [local go_sem] Oper.semAt_some
set_option linter.unusedVariables false
section
variable {B w : World} {L : List HP}
theorem bmake_arg (v : Value) (b : Int) (hb : b < 1 ∨ 32 < b) (h : Sat B L w) :
    Calls Try.prog 27 #[v, .int .i64 b] w fun e w' => e = .returned (.tuple #[.string ⟨#[]⟩, .int .i64 2]) ∧ Sat B L w' := by
  refine calls_of_wp_marks Try.func27 rfl ?_
  simp only [Try.ntmps27, List.size_toArray, List.length_cons, List.length_nil, Nat.reduceAdd, Nat.reduceSub, Array.replicate_succ, Array.replicate_zero, List.push_toArray, List.append_toArray, List.nil_append, List.cons_append]
  rcases hb with hb | hb
  all_goals
    by_cases hb2 : b < 1
    all_goals
      go_wp2_with fail
      refine leaves_marks [] _ (dfs_nil h) fun w' h' => ?_
      exact ⟨.tuple #[.string ⟨#[]⟩, .int .i64 2], by simp [results, Try.results27, go_sem], rfl, h'⟩
theorem bmake_long (a : Option Addr) (n c : Nat) (b : Int) (hb1 : 1 ≤ b) (hb2 : b ≤ 32) (hn : 32768 < n) (hn2 : n ≤ c) (hc : c ≤ 9223372036854775807) (ha : a = none → n = 0 ∧ c = 0) (h : Sat B L w) :
    Calls Try.prog 27 #[.slice a n c, .int .i64 b] w fun e w' => e = .returned (.tuple #[.string ⟨#[]⟩, .int .i64 3]) ∧ Sat B L w' := by
  refine calls_of_wp_marks Try.func27 rfl ?_
  simp only [Try.ntmps27, List.size_toArray, List.length_cons, List.length_nil, Nat.reduceAdd, Nat.reduceSub, Array.replicate_succ, Array.replicate_zero, List.push_toArray, List.append_toArray, List.nil_append, List.cons_append]
  go_wp2_with fail
  refine leaves_marks [] _ (dfs_nil h) fun w' h' => ?_
  exact ⟨.tuple #[.string ⟨#[]⟩, .int .i64 3], by simp [results, Try.results27, go_sem], rfl, h'⟩
theorem rmake_arg (v : Value) (b : Int) (hb : b < 1 ∨ 32 < b) (h : Sat B L w) :
    Calls Try.prog 28 #[v, .int .i64 b] w fun e w' => e = .returned (.tuple #[.string ⟨#[]⟩, .int .i64 2]) ∧ Sat B L w' := by
  rcases hb with hb | hb
  all_goals
    by_cases hb2 : b < 1
    all_goals
      go_enter Try.func28, Try.ntmps28
      go_wp2_with fail
      go_ret2
      exact ⟨rfl, h⟩
theorem rmake_long (a : Option Addr) (n c : Nat) (b : Int) (hb1 : 1 ≤ b) (hb2 : b ≤ 32) (hn : 32768 < n) (hn2 : n ≤ c) (hc : c ≤ 9223372036854775807) (ha : a = none → n = 0 ∧ c = 0) (h : Sat B L w) :
    Calls Try.prog 28 #[.slice a n c, .int .i64 b] w fun e w' => e = .returned (.tuple #[.string ⟨#[]⟩, .int .i64 3]) ∧ Sat B L w' := by
  go_enter Try.func28, Try.ntmps28
  go_wp2_with fail
  go_ret2
  exact ⟨rfl, h⟩
/-- What a filter is of any keys and any bits; its error. -/
def mkF (keys : List ByteArray) (b : Int) : ByteArray := if 1 ≤ b ∧ b ≤ 32 ∧ keys.length ≤ 32768 then filterOf keys b.toNat else ⟨#[]⟩
def mkE (keys : List ByteArray) (b : Int) : Int := if 1 ≤ b ∧ b ≤ 32 then if keys.length ≤ 32768 then 0 else 3 else 2
theorem make_any (f : FuncId) (hf : ∀ (B w : World) (L : List HP) (keys : List ByteArray) (a : Option Addr) (n c b : Nat), 1 ≤ b → b ≤ 32 → n ≤ 32768 → keys.length = n → (∀ s ∈ keys, s.size ≤ 9223372036854775807) → Sat B L w → (∀ w', Sat B L w' → reads w' (.slice a n c) n (strs keys)) →
      Calls Try.prog f #[.slice a n c, .int .i64 b] w fun e w' => e = .returned (.tuple #[.string (filterOf keys b), .int .i64 0]) ∧ Sat B L w')
    (hg : ∀ (B w : World) (L : List HP) (v : Value) (b : Int), b < 1 ∨ 32 < b → Sat B L w → Calls Try.prog f #[v, .int .i64 b] w fun e w' => e = .returned (.tuple #[.string ⟨#[]⟩, .int .i64 2]) ∧ Sat B L w')
    (hh : ∀ (B w : World) (L : List HP) (a : Option Addr) (n c : Nat) (b : Int), 1 ≤ b → b ≤ 32 → 32768 < n → n ≤ c → c ≤ 9223372036854775807 → (a = none → n = 0 ∧ c = 0) → Sat B L w → Calls Try.prog f #[.slice a n c, .int .i64 b] w fun e w' => e = .returned (.tuple #[.string ⟨#[]⟩, .int .i64 3]) ∧ Sat B L w')
    (keys : List ByteArray) (a : Option Addr) (n c : Nat) (b : Int) (hkn : keys.length = n) (hks : ∀ s ∈ keys, s.size ≤ 9223372036854775807)
    (h : Sat B L w) (hr : ∀ w', Sat B L w' → reads w' (.slice a n c) n (strs keys)) :
    Calls Try.prog f #[.slice a n c, .int .i64 b] w fun e w' => e = .returned (.tuple #[.string (mkF keys b), .int .i64 (mkE keys b)]) ∧ Sat B L w' := by
  unfold mkF mkE
  by_cases hb : 1 ≤ b ∧ b ≤ 32
  · by_cases hn : keys.length ≤ 32768
    · rw [if_pos ⟨hb.1, hb.2, hn⟩, if_pos hb, if_pos hn]
      obtain ⟨m, rfl⟩ := Int.eq_ofNat_of_zero_le (show 0 ≤ b by omega)
      exact hf B w L keys a n c m (by omega) (by omega) (by omega) hkn hks h hr
    · rw [if_neg (fun e => hn e.2.2), if_pos hb, if_neg hn]
      obtain ⟨h1, h2, h3⟩ := reads_len (hr w h)
      exact hh B w L a n c b hb.1 hb.2 (by omega) h2 h3 h1 h
  · rw [if_neg (fun e => hb ⟨e.1, e.2.1⟩), if_neg hb]
    exact hg B w L _ b (by omega) h
theorem bmake_any (keys : List ByteArray) (a : Option Addr) (n c : Nat) (b : Int) (hkn : keys.length = n) (hks : ∀ s ∈ keys, s.size ≤ 9223372036854775807)
    (h : Sat B L w) (hr : ∀ w', Sat B L w' → reads w' (.slice a n c) n (strs keys)) :
    Calls Try.prog 27 #[.slice a n c, .int .i64 b] w fun e w' => e = .returned (.tuple #[.string (mkF keys b), .int .i64 (mkE keys b)]) ∧ Sat B L w' :=
  make_any _ (fun _ _ _ keys a n c b h1 h2 h3 h4 h5 h6 h7 => bmake keys a n c b h1 h2 h3 h4 h5 h6 h7) (fun _ _ _ v b h1 h2 => bmake_arg v b h1 h2) (fun _ _ _ a n c b h1 h2 h3 h4 h5 h6 h7 => bmake_long a n c b h1 h2 h3 h4 h5 h6 h7) keys a n c b hkn hks h hr
theorem rmake_any (keys : List ByteArray) (a : Option Addr) (n c : Nat) (b : Int) (hkn : keys.length = n) (hks : ∀ s ∈ keys, s.size ≤ 9223372036854775807)
    (h : Sat B L w) (hr : ∀ w', Sat B L w' → reads w' (.slice a n c) n (strs keys)) :
    Calls Try.prog 28 #[.slice a n c, .int .i64 b] w fun e w' => e = .returned (.tuple #[.string (mkF keys b), .int .i64 (mkE keys b)]) ∧ Sat B L w' :=
  make_any _ (fun _ _ _ keys a n c b h1 h2 h3 h4 h5 h6 h7 => rmake keys a n c b h1 h2 h3 h4 h5 h6 h7) (fun _ _ _ v b h1 h2 => rmake_arg v b h1 h2) (fun _ _ _ a n c b h1 h2 h3 h4 h5 h6 h7 => rmake_long a n c b h1 h2 h3 h4 h5 h6 h7) keys a n c b hkn hks h hr

theorem string_elem : Elem Try.prog 49 9 (.string ⟨#[]⟩) 1 16 :=
  ⟨Try.underlying49, by kernel_rfl, rfl, by decide, by simp [Value.cells, Value.oneCell']⟩
def cutS (s : ByteArray) : ByteArray := s.extract 0 (min s.size 100)
def cutK (keys : List ByteArray) : List ByteArray := (keys.take 200).map cutS
theorem strs_one (ks : List ByteArray) : ∀ u ∈ strs ks, u.oneCell' = true := by
  intro u hu
  obtain ⟨b, _, rfl⟩ := List.mem_map.1 hu
  rfl
set_option maxHeartbeats 1000000 in
set_option maxRecDepth 100000 in
theorem cut_any (keys : List ByteArray) (a : Option Addr) (n c : Nat) (hkn : keys.length = n) (hks : ∀ s ∈ keys, s.size ≤ 9223372036854775807)
    (h : Sat B L w) (hr : ∀ w', Sat B L w' → reads w' (.slice a n c) n (strs keys)) :
    Calls Try.prog 26 #[.slice a n c] w fun e w' => ∃ a' c', e = .returned (.slice a' (cutK keys).length c') ∧ Sat B (row 9 1 (.slice a' (cutK keys).length c') (cutK keys).length (strs (cutK keys)) :: L) w' := by
  obtain ⟨_, hnc, hcm⟩ := reads_len (hr w h)
  have Hr := Lib.hid hr
  have Hk := Lib.hid hkn
  have Hs := Lib.hid hks
  clear hr hkn hks
  obtain ⟨N, hN⟩ : ∃ N, min n 200 = N := ⟨_, rfl⟩
  have HN := Lib.hid hN
  clear hN
  go_enter Try.func26, Try.ntmps26
  go_wp2_with fail
  go_loopg [3, 4] N (fun gh v i wr => ∃ (j : Nat) (a : Option Addr) (c : Nat), j + gh ≤ N ∧ N ≤ j + gh ∧ i = .int .i64 j ∧ v = .slice a j c ∧ Sat B (row 9 1 (.slice a j c) j (strs ((keys.take j).map cutS)) :: L) wr)
  case atStart => exact ⟨0, none, 0, by omega, by omega, rfl, rfl, h.row_nil _ _⟩
  case round =>
    obtain ⟨j, ra, rc, hg1, hg2, rfl, rfl, hs1⟩ := hrel
    clear h
    by_cases hj : j < n
    · by_cases hj2 : j < 200
      · have hjN : j < N := by have := HN.out; omega
        obtain ⟨kg, koff, hka, q0⟩ := reads_strs (Hr.out wr hs1.drop) Hk.out j hj
        subst hka
        have hks := Hs.out _ (List.getElem_mem (by rw [Hk.out]; exact hj : j < keys.length))
        obtain ⟨s, hs⟩ : ∃ s, keys[j]'(by rw [Hk.out]; exact hj) = s := ⟨_, rfl⟩
        rw [hs] at q0 hks
        have HS := Lib.hid hs
        clear hs
        have b3 : j + 1 ≤ maxLen := by unfold maxLen; omega
        have b4 : (j + 1) * 16 ≤ 140737488355328 := by omega
        have hS1 := ((hs1.drew).alloc (.cells #[.string (cutS s)] 9)).swap
        obtain ⟨q, hq⟩ : ∃ q, min s.size 100 = q := ⟨_, rfl⟩
        have hq1 : (if (100 : Int) < (s.size : Int) then (100 : Int) else s.size) = q := by split <;> omega
        have hq2 : q ≤ s.size := by omega
        rw [cutS, hq] at hS1
        have Hq := Lib.hid hq
        clear hq
        go_wp2_with fail
        go_region_law (refine step_append_row rfl string_elem (.tmp 15) (.tmp 27) rfl _ _ _ _ _ _ rfl rfl hS1 (reads_new _ _ rfl (by omega)) rfl (by simp [Value.oneCell']) b3 b4 ?_; intro a' c' w' hS)
        all_goals
          go_wp2_with fail
          go_roundg (gk - 1)
          case measure => omega
          case rel =>
            have hS := ‹Sat B (row 9 1 (.slice a' (j + 1) c') _ _ :: _ :: L) _›.swap.drop
            refine ⟨j + 1, a', c', by omega, by omega, by go_num, rfl, ?_⟩
            rw [List.take_succ_eq_append_getElem (by rw [Hk.out]; exact hj : j < keys.length), List.map_append, HS.out, List.map_cons, cutS, Hq.out]
            unfold strs
            rw [List.map_append]
            exact hS
      · have hN := HN.out
        obtain rfl : j = N := by omega
        obtain rfl : j = 200 := by omega
        go_wp2_with fail
        go_ret
        have hl : (cutK keys).length = 200 := by rw [cutK, List.length_map, List.length_take, Hk.out]; omega
        rw [hl]
        exact ⟨_, _, rfl, hs1⟩
    · have hN := HN.out
      obtain rfl : j = n := by omega
      go_wp2_with fail
      go_ret
      have hl : (cutK keys).length = j := by rw [cutK, List.length_map, List.length_take, Hk.out]; omega
      have he : cutK keys = (keys.take j).map cutS := by rw [cutK, List.take_of_length_le (by rw [Hk.out]; omega), List.take_of_length_le (by rw [Hk.out]; omega)]
      rw [hl, he]
      exact ⟨_, _, rfl, hs1⟩
end
end Go.Proofs.Ytgccdndlpjbkhaa
