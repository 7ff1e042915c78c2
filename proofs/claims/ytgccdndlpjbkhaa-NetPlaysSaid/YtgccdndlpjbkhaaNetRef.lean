/-
  The document's answer for nets: contracts of acreageref29's functions.
-/
import Derived.Test.YtgccdndlpjbkhaaNet3
import Derived.Test.YtgccdndlpjbkhaaSlMore
import Derived.Deep.LoopGhost
import Derived.Lib.Hide
import Derived.Deep.QuietTactic
import Derived.BigQuiet
namespace Go.Proofs.Ytgccdndlpjbkhaa
open Go.RowKit
section
variable {B w : World} {L : List HP} {ps qs : List Pk}

theorem pkrow_in {a : Option Addr} {c n : Nat} {qs : List Pk} {xs : List Value} (hn : n = qs.length) (hx : xs = pks qs) (h : Sat B (row 27 3 (.slice a n c) n xs :: L) w) : Sat B (pkrow a c qs :: L) w := by
  subst hn; subst hx; exact h
theorem reads_pk {w : World} {a : Option Addr} {m c : Nat} {qs : List Pk} (h : reads w (.slice a m c) m (pks qs)) (hm : qs.length = m) (j : Nat) (hj : j < m) :
    ∃ g off, a = some ⟨g, off, none⟩ ∧ w.cell? ⟨g, off + j * 3, none⟩ = some (.int .i64 (qs[j]'(by omega)).1) ∧ w.cell? ⟨g, off + j * 3 + 1, none⟩ = some (.int .i64 (qs[j]'(by omega)).2.1) ∧ w.cell? ⟨g, off + j * 3 + 2, none⟩ = some (.string (qs[j]'(by omega)).2.2) := by
  obtain ⟨p0, p1, p2⟩ := pks_get qs j (by omega)
  obtain ⟨a', c', hv, _, _, _, hc⟩ := h
  cases hv
  obtain ⟨g, off, rfl, c0⟩ := hc _ _ p0
  obtain ⟨_, _, e1, c1⟩ := hc _ _ p1
  cases e1
  obtain ⟨_, _, e2, c2⟩ := hc _ _ p2
  cases e2
  rw [← Nat.add_assoc] at c1 c2
  exact ⟨g, off, rfl, c0, c1, c2⟩

set_option maxRecDepth 100000 in
set_option maxHeartbeats 1000000 in
theorem rsend (h : Sat B L w) (na la : Option Addr) (nn nc m lc : Nat) (hpn : ps.length = nn) (hqm : qs.length = m) (hle : nn ≤ 256)
    (hn : ∀ w', Sat B L w' → reads w' (.slice na nn nc) nn (pks ps)) (hl : ∀ w', Sat B L w' → reads w' (.slice la m lc) m (pks qs)) :
    Calls Try.prog 22 #[.slice na nn nc, .slice la m lc] w fun e w' => ∃ a c N, e = .returned (.tuple #[.slice a N c, .int .i64 (m - (min (256 - nn) m : Nat))]) ∧ N = (ps ++ qs.take (256 - nn)).length ∧ Sat B (pkrow a c (ps ++ qs.take (256 - nn)) :: L) w' := by
  obtain ⟨_, hmc, hmm⟩ := reads_len (hl w h)
  have b1 : 0 + nn ≤ maxLen := by unfold maxLen; omega
  have b2 : (0 + nn) * 32 ≤ 140737488355328 := by omega
  go_enter Try.func22, Try.ntmps22
  go_wp2_with (at_builtin; refine wpList_append_row rfl packet_elem (.tmp 9) (.tmp 10) rfl _ _ 0 nn [] (pks ps) rfl rfl (h.row_nil _ _) (hn w h) (by rw [pks_len, hpn]) (pks_one _) b1 b2 ?_; intro a1 c1 w1 h1; go_frame)
  have h1 : Sat B (row 27 3 _ _ _ :: L) _ := ‹_›
  rw [List.nil_append, Nat.zero_add] at h1
  rw [Nat.zero_add]
  have Hn := Lib.hid hn
  have Hl := Lib.hid hl
  have Hp := Lib.hid hpn
  have Hq := Lib.hid hqm
  clear hn hl hpn hqm
  go_loopg [6, 7, 8] m (fun g out lost i wr => ∃ (j t d : Nat) (a : Option Addr) (c : Nat), j + g ≤ m ∧ m ≤ j + g ∧ d + t ≤ j ∧ j ≤ d + t ∧ nn + t ≤ 256 ∧ (nn + t < 256 → d = 0) ∧ out = .slice a (nn + t) c ∧ lost = .int .i64 d ∧ i = .int .i64 j ∧ Sat B (row 27 3 (.slice a (nn + t) c) (nn + t) (pks (ps ++ qs.take t)) :: L) wr)
  case atStart => exact ⟨0, 0, 0, _, _, by omega, by omega, by omega, by omega, by omega, fun _ => rfl, rfl, rfl, rfl, by simpa using h1⟩
  case round =>
    obtain ⟨j, t, d, a, c, hg1, hg2, hd1, hd2, ht, hdt, rfl, rfl, rfl, hs⟩ := hrel
    have Hdt := Lib.hid hdt
    clear hdt h1
    by_cases hjm : j < m
    · by_cases htt : nn + t < 256
      · have hd0 := Hdt.out htt
        subst hd0
        have htj : t = j := by omega
        subst htj
        obtain ⟨g, off, hla, q0, q1, q2⟩ := reads_pk (Hl.out wr hs.drop) Hq.out t hjm
        subst hla
        have hS1 := (hs.alloc (.cells #[.int .i64 (qs[t]'(by rw [Hq.out]; exact hjm)).1, .int .i64 (qs[t]'(by rw [Hq.out]; exact hjm)).2.1, .string (qs[t]'(by rw [Hq.out]; exact hjm)).2.2] 27)).swap
        have b3 : nn + t + 1 ≤ maxLen := by unfold maxLen; omega
        have b4 : (nn + t + 1) * 32 ≤ 140737488355328 := by omega
        go_wp2_with (at_builtin; refine wpList_append_row rfl packet_elem (.tmp 21) (.tmp 26) rfl _ _ (nn + t) 1 (pks (ps ++ qs.take t)) (pcells (qs[t]'(by rw [Hq.out]; exact hjm))) rfl rfl hS1 (reads_new _ _ rfl (by omega)) rfl (fun u hu => pks_one [_] u (by simpa [pks] using hu)) b3 b4 ?_; intro a1 c1 w1 h1; go_frame)
        go_roundg (gk - 1)
        case measure => omega
        case rel =>
          refine ⟨t + 1, t + 1, 0, _, _, by omega, by omega, by omega, by omega, by omega, fun _ => rfl, rfl, rfl, by go_num, ?_⟩
          have h1 : Sat B (row 27 3 (.slice _ _ _) (nn + t + 1) _ :: _ :: L) _ := ‹_›
          have e : pks (ps ++ qs.take (t + 1)) = pks (ps ++ qs.take t) ++ pcells (qs[t]'(by rw [Hq.out]; exact hjm)) := by
            rw [List.take_succ_eq_append_getElem (by rw [Hq.out]; exact hjm), ← List.append_assoc, pks_append (ps ++ qs.take t)]
            simp [pks]
          rw [e]
          exact h1.swap.drop
      · go_wp2_with fail
        go_roundg (gk - 1)
        case measure => omega
        case rel => exact ⟨j + 1, t, d + 1, _, _, by omega, by omega, by omega, by omega, by omega, fun e => absurd e htt, rfl, by go_num, by go_num, hs⟩
    · go_wp2_with fail
      go_ret2
      have ht2 : t = min (256 - nn) m := by
        rcases Nat.lt_or_ge (nn + t) 256 with h1 | h1
        · have := Hdt.out h1; omega
        · omega
      have e1 : qs.take t = qs.take (256 - nn) := by
        rw [ht2]
        rcases Nat.le_total (256 - nn) m with h1 | h1
        · rw [Nat.min_eq_left h1]
        · rw [Nat.min_eq_right h1, List.take_of_length_le (by rw [Hq.out]; omega), List.take_of_length_le (by rw [Hq.out]; omega)]
      have e2 : (ps ++ qs.take (256 - nn)).length = nn + t := by rw [← e1, List.length_append, List.length_take, Hp.out, Hq.out]; omega
      refine ⟨a, c, nn + t, ?_, e2.symm, ?_⟩
      · rw [show ((m : Int) - ((min (256 - nn) m : Nat) : Int)) = (d : Int) by omega]; rfl
      · rw [e1] at hs
        exact pkrow_in e2.symm rfl hs

set_option maxRecDepth 100000 in
set_option maxHeartbeats 1000000 in
theorem rtake_no (h : Sat B L w) (na : Option Addr) (nn nc : Nat) (k : Int) (hk : k < 0 ∨ (nn : Int) ≤ k) :
    Calls Try.prog 23 #[.slice na nn nc, .int .i64 k] w fun e w' => e = .returned (.tuple #[.slice na nn nc, .agg #[.int .i64 0, .int .i64 0, .string ⟨#[]⟩], .bool false]) ∧ Sat B L w' := by
  rcases hk with hk | hk
  · go_enter Try.func23, Try.ntmps23
    go_wp2
    refine bodyPost_ret (v := .tuple #[.slice na nn nc, .agg #[.int .i64 0, .int .i64 0, .string ⟨#[]⟩], .bool false]) (by simp [results, Try.results23, go_sem]) rfl ⟨rfl, (h.alloc _).drop⟩
  · have h0 : 0 ≤ k := by omega
    go_enter Try.func23, Try.ntmps23
    go_wp2
    refine bodyPost_ret (v := .tuple #[.slice na nn nc, .agg #[.int .i64 0, .int .i64 0, .string ⟨#[]⟩], .bool false]) (by simp [results, Try.results23, go_sem]) rfl ⟨rfl, (h.alloc _).drop⟩

set_option maxRecDepth 100000 in
set_option maxHeartbeats 1000000 in
theorem rtake (h : Sat B L w) (na : Option Addr) (nn nc : Nat) (hpn : ps.length = nn) (hle : nn ≤ 256) (hn : ∀ w', Sat B L w' → reads w' (.slice na nn nc) nn (pks ps)) (k : Nat) (p : Pk) (hkp : ps[k]? = some p) :
    Calls Try.prog 23 #[.slice na nn nc, .int .i64 k] w fun e w' => ∃ a c N, e = .returned (.tuple #[.slice a N c, .agg #[.int .i64 p.1, .int .i64 p.2.1, .string p.2.2], .bool true]) ∧
      N = (ps.eraseIdx k).length ∧ Sat B (pkrow a c (ps.eraseIdx k) :: L) w' := by
  obtain ⟨_, hmc, hmm⟩ := reads_len (hn w h)
  obtain ⟨hk0, hpk⟩ := List.getElem?_eq_some_iff.1 hkp
  have hk : k < nn := by omega
  have hpk' := fun w' h' => reads_pk (hn w' h') hpn k hk
  rw [hpk] at hpk'
  clear hpk hkp hk0
  obtain ⟨g, off, hna, q0, q1, q2⟩ := hpk' w h
  subst hna
  clear q0 q1 q2
  have Hpk := Lib.hid hpk'
  clear hpk'
  have b1 : k ≤ maxLen := by unfold maxLen; omega
  have b2 : k * 32 ≤ 140737488355328 := by omega
  have b3 : nn - 1 ≤ maxLen := by unfold maxLen; omega
  have b4 : (nn - 1) * 32 ≤ 140737488355328 := by omega
  have i1 : IntKind.i64.wrap ((k : Int) + 1) = (k : Int) + 1 := IntWalk.i64_in _ (by omega)
  have hkc : k ≤ nc := by omega
  have hk1 : k + 1 ≤ nn := by omega
  have Hn := Lib.hid hn
  have Hp := Lib.hid hpn
  clear hn hpn
  have e1 : pks (ps.take k) = (pks ps).take (k * 3) := (pks_take ps k).symm
  have hS0 := h.alloc (.cells #[.int .i64 0, .int .i64 0, .string ⟨#[]⟩] 27)
  have hr1 : reads _ (.slice (some ⟨g, off, none⟩) k nc) k ((pks ps).take (k * 3)) := reads_take (Hn.out _ hS0.drop) k (k * 3) (by omega)
  have hl1 : ((pks ps).take (k * 3)).length = k * 3 := by rw [List.length_take, pks_len, Hp.out]; omega
  have ho1 : ∀ u ∈ (pks ps).take (k * 3), u.oneCell' = true := fun u hu => pks_one ps u (List.mem_of_mem_take hu)
  have hl2 : ((pks ps).drop ((k + 1) * 3)).length = (nn - (k + 1)) * 3 := by rw [List.length_drop, pks_len, Hp.out]; omega
  have ho2 : ∀ u ∈ (pks ps).drop ((k + 1) * 3), u.oneCell' = true := fun u hu => pks_one ps u (List.mem_of_mem_drop hu)
  have hR : ∀ w', Sat B L w' → (nc = k + 1 → reads w' (.slice (some ⟨g, off, none⟩) (nn - (k + 1)) 0) (nn - (k + 1)) ((pks ps).drop ((k + 1) * 3))) ∧ (nc ≠ k + 1 → reads w' (.slice (some ⟨g, off + (k + 1) * 3, none⟩) (nn - (k + 1)) (nc - (k + 1))) (nn - (k + 1)) ((pks ps).drop ((k + 1) * 3))) := fun w' h' => by
    have := reads_tail (Hn.out w' h') (k + 1) 3 hk1 (by rw [pks_len, Hp.out])
    refine ⟨fun e => ?_, this.2⟩
    have h2 := this.1 e
    rw [e, Nat.sub_self] at h2
    exact h2
  have HR := Lib.hid hR
  clear hR
  have j2 : 0 ≤ (k : Int) + 1 := by omega
  have j3 : ((k : Int) + 1).toNat = k + 1 := by omega
  by_cases hlast : nc = k + 1
  all_goals
    go_enter Try.func23, Try.ntmps23
    go_wp2_with (first
      | (at_builtin; refine wpList_append_to rfl packet_elem (.tmp 18) (.tmp 21) rfl _ _ 0 k k [] ((pks ps).take (k * 3)) _ rfl rfl (hS0.row_nil _ _) (by first | exact hr1 | (rw [hlast] at hr1; exact hr1)) hl1 ho1 (Nat.zero_add _) (List.nil_append _) b1 b2 ?_; intro a1 c1 w1 h1; go_frame)
      | (at_builtin; refine wpList_append_to rfl packet_elem (.tmp 23) (.tmp 27) rfl _ _ k (nn - (k + 1)) (nn - 1) ((pks ps).take (k * 3)) ((pks ps).drop ((k + 1) * 3)) (pks (ps.eraseIdx k)) rfl rfl (‹Sat B (row 27 3 (.slice _ k _) k _ :: pt _ _ :: L) _›) (by first | exact (HR.out _ (‹Sat B (row 27 3 (.slice _ k _) k _ :: pt _ _ :: L) _›).drop.drop).1 hlast | exact (HR.out _ (‹Sat B (row 27 3 (.slice _ k _) k _ :: pt _ _ :: L) _›).drop.drop).2 hlast) hl2 ho2 (by omega) (pks_erase _ _) b3 b4 ?_; intro a2 c2 w2 h2; go_frame))
    have h2 : Sat B (row 27 3 (.slice _ (nn - 1) _) _ (pks (ps.eraseIdx k)) :: pt w.heap.size (.cells #[.int .i64 0, .int .i64 0, .string ⟨#[]⟩] 27) :: L) _ := ‹_›
    obtain ⟨_, _, hgo, q0, q1, q2⟩ := Hpk.out _ h2.drop.drop
    cases hgo
    have z0 := h2.swap.pt_cell 0
    have z1 := h2.swap.pt_cell 1
    have z2 := h2.swap.pt_cell 2
    have zf := h2.swap.pt_free
    have zl := h2.swap.pt_lt
    go_region
    all_goals
      go_wp2
      refine bodyPost_ret (v := .tuple #[.slice a2 (nn - 1) c2, .agg #[.int .i64 p.1, .int .i64 p.2.1, .string p.2.2], .bool true]) (by simp [results, Try.results23, go_sem, z0, z1, z2]) rfl ?_
      refine ⟨_, _, nn - 1, rfl, by rw [List.length_eraseIdx, if_pos (by rw [Hp.out]; exact hk), Hp.out], ?_⟩
      have h3 := (((h2.swap.drew.set (j := 0) (.int .i64 p.1)).set (j := 1) (.int .i64 p.2.1)).set (j := 2) (.string p.2.2)).drop
      exact pkrow_in (by rw [List.length_eraseIdx, if_pos (by rw [Hp.out]; exact hk), Hp.out]) rfl h3

set_option maxRecDepth 100000 in
set_option maxHeartbeats 1000000 in
theorem rdouble_no (w : World) (na : Option Addr) (nn nc : Nat) (k : Int) (hk : k < 0 ∨ (nn : Int) ≤ k ∨ 256 ≤ nn) :
    Calls Try.prog 24 #[.slice na nn nc, .int .i64 k] w fun e w' => e = .returned (.tuple #[.slice na nn nc, .bool false]) ∧ w = w' := by
  by_cases h1 : k < 0
  · go_enter Try.func24, Try.ntmps24
    go_wp2
    go_ret2
    exact ⟨rfl, rfl⟩
  · have h0 : 0 ≤ k := by omega
    by_cases h2 : (nn : Int) ≤ k
    · go_enter Try.func24, Try.ntmps24
      go_wp2
      go_ret2
      exact ⟨rfl, rfl⟩
    · have h3 : 256 ≤ nn := by omega
      go_enter Try.func24, Try.ntmps24
      go_wp2
      go_ret2
      exact ⟨rfl, rfl⟩

set_option maxRecDepth 100000 in
set_option maxHeartbeats 1000000 in
theorem rdouble (h : Sat B L w) (na : Option Addr) (nn nc : Nat) (hpn : ps.length = nn) (hle : nn < 256) (hn : ∀ w', Sat B L w' → reads w' (.slice na nn nc) nn (pks ps)) (k : Nat) (p : Pk) (hkp : ps[k]? = some p) :
    Calls Try.prog 24 #[.slice na nn nc, .int .i64 k] w fun e w' => ∃ a c N, e = .returned (.tuple #[.slice a N c, .bool true]) ∧ N = (ps ++ [p]).length ∧ Sat B (pkrow a c (ps ++ [p]) :: L) w' := by
  obtain ⟨hk0, hpk⟩ := List.getElem?_eq_some_iff.1 hkp
  have hk : k < nn := by omega
  obtain ⟨g, off, hna, q0, q1, q2⟩ := reads_pk (hn w h) hpn k hk
  rw [hpk] at q0 q1 q2
  subst hna
  clear hpk hkp hk0
  have hS1 := h.alloc (.cells #[.int .i64 p.1, .int .i64 p.2.1, .string p.2.2] 27)
  have hc := rsend (ps := ps) (qs := [p]) hS1 (some ⟨g, off, none⟩) (some ⟨w.heap.size, 0, none⟩) nn nc 1 1 hpn rfl (by omega) (fun w' h' => hn w' h'.drop) (fun w' h' => by
    refine ⟨_, _, rfl, (fun e => by cases e), Nat.le_refl _, by unfold maxLen; omega, fun j u e => ⟨_, _, rfl, ?_⟩⟩
    rw [h'.pt_cell, Nat.zero_add]
    simpa [pks, pcells] using e)
  have Hc := Lib.hid hc
  clear hc hn hpn
  go_enter Try.func24, Try.ntmps24
  go_wp2_with fail
  refine Hc.out.mono ?_
  rintro e w1 ⟨a, c, N, rfl, hN, h1⟩
  have HN := Lib.hid hN
  clear hN
  go_wp2_with fail
  go_ret2
  have e1 : [p].take (256 - nn) = [p] := List.take_of_length_le (by simp; omega)
  rw [e1] at h1
  exact ⟨a, c, N, rfl, by rw [HN.out, e1], h1.swap.drop⟩

set_option maxRecDepth 100000 in
set_option maxHeartbeats 1000000 in
/-- Same, of two lists that are the same. -/
theorem rsame (h : Sat B L w) (na ma : Option Addr) (nn nc mc : Nat) (hpn : ps.length = nn) (hn : reads w (.slice na nn nc) nn (pks ps)) (hm : reads w (.slice ma nn mc) nn (pks ps)) :
    Calls Try.prog 25 #[.slice na nn nc, .slice ma nn mc] w fun e w' => e = .returned (.bool true) ∧ Sat B L w' := by
  obtain ⟨_, hmc, hmm⟩ := reads_len hn
  have Hn := Lib.hid hn
  have Hm := Lib.hid hm
  have Hp := Lib.hid hpn
  clear hn hm hpn
  go_enter Try.func25, Try.ntmps25
  go_wp2_with fail
  go_loopg [5] nn (fun g i wr => ∃ j : Nat, j + g ≤ nn ∧ nn ≤ j + g ∧ i = .int .i64 j ∧ (∀ a, wr.cell? a = w.cell? a) ∧ Sat B L wr)
  case atStart => exact ⟨0, by omega, by omega, rfl, fun _ => rfl, h⟩
  case round =>
    obtain ⟨j, hg1, hg2, rfl, hcc, hs⟩ := hrel
    by_cases hj : j < nn
    · obtain ⟨g, off, hna, q0, q1, q2⟩ := reads_pk Hn.out Hp.out j hj
      obtain ⟨g2, off2, hma, r0, r1, r2⟩ := reads_pk Hm.out Hp.out j hj
      subst hna
      subst hma
      rw [← hcc] at q0 q1 q2 r0 r1 r2
      have Hcc := Lib.hid hcc
      clear hcc
      obtain ⟨p, hp⟩ : ∃ p, ps[j]'(by rw [Hp.out]; exact hj) = p := ⟨_, rfl⟩
      rw [hp] at q0 q1 q2 r0 r1 r2
      clear hp
      go_wp2_with fail
      go_quiet (fail)
      go_wp2_with fail
      go_roundg (gk - 1)
      case measure => omega
      case rel => exact ⟨j + 1, by omega, by omega, by go_num, fun a => (Hcc.out a), hs.drewN _⟩
    · have Hcc := Lib.hid hcc
      clear hcc
      go_wp2_with fail
      go_ret
      exact ⟨rfl, hs⟩
end
end Go.Proofs.Ytgccdndlpjbkhaa
