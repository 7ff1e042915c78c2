/-
  The packets under way: contracts of package net's functions, the second part.
-/
import Derived.Test.YtgccdndlpjbkhaaNet
namespace Go.Proofs.Ytgccdndlpjbkhaa
open Go.RowKit
section
variable {B w : World} {L : List HP} {b : Nat} {ps : List Pk}

/-- The list of all: a row of its own. -/
def pkrow (a : Option Addr) (c : Nat) (ps : List Pk) : HP := row 27 3 (.slice a ps.length c) ps.length (pks ps)

set_option maxHeartbeats 400000 in
theorem all_net (h : Sat B (net b ps :: L) w) (hle : ps.length ≤ 256) :
    Calls Try.prog 19 #[.pointer (some ⟨b, 0, none⟩)] w fun e w' => ∃ a c, e = .returned (.slice a ps.length c) ∧ Sat B (pkrow a c ps :: net b ps :: L) w' := by
  obtain ⟨a, c, h'⟩ := net_out h
  have hb : 32 * ps.length ≤ 281474976710656 := by omega
  have hm : ps.length ≤ maxLen := by unfold maxLen; omega
  go_enter Try.func19, Try.ntmps19
  go_wp2_with (first
    | (go_at_call 16; refine (len_net h).mono ?_; rintro e w' ⟨rfl, rfl⟩)
    | (at_make; refine wpList_make_row rfl packet_elem _ _ rfl ps.length ps.length rfl rfl h' (Nat.le_refl _) hb hm ?_; intro a1 w1 hS1; have hc1 : w1.cell? ⟨b, 0, none⟩ = some _ := hS1.swap.pt_cell 0)
    | (with_reducible refine wpList_copy_row rfl packet_elem (.tmp 9) (.tmp 13) 36 rfl _ _ ps.length ps.length _ _ rfl rfl ‹Sat B (row 27 3 (.slice _ _ _) _ _ :: pt b _ :: row 27 3 (.slice a ps.length c) ps.length (pks ps) :: L) _› (‹Sat B (row 27 3 (.slice _ _ _) _ _ :: pt b _ :: row 27 3 (.slice a ps.length c) ps.length (pks ps) :: L) _›).p2.row_reads (pks_len _) (pks_one _) (Nat.le_refl _) ?_; intro w2 hS2))
  go_ret
  refine ⟨_, _, rfl, ?_⟩
  have e1 : (List.replicate ps.length (Value.agg #[.int .i64 0, .int .i64 0, .string ⟨#[]⟩]).cells.toList).flatten.drop (ps.length * 3) = [] := by
    apply List.drop_of_length_le
    simp [Value.cells]
  have hS2 := ‹Sat B (row 27 3 _ _ (pks ps ++ _) :: _) _›
  rw [e1, List.append_nil] at hS2
  exact Sat.swap (net_in rfl hS2.p2.p2)

set_option maxHeartbeats 400000 in
theorem copy_net (h : Sat B (net b ps :: L) w) (hle : ps.length ≤ 256) :
    Calls Try.prog 21 #[.pointer (some ⟨b, 0, none⟩)] w fun e w' => ∃ b2, e = .returned (.pointer (some ⟨b2, 0, none⟩)) ∧ Sat B (net b2 ps :: net b ps :: L) w' := by
  go_enter Try.func21, Try.ntmps21
  go_wp2_with (go_at_call 19; refine (all_net h hle).mono ?_; rintro e w1 ⟨a1, c1, rfl, hS1⟩)
  go_ret
  exact ⟨_, rfl, net_in rfl ((‹Sat B (pkrow _ _ ps :: _) _›).alloc _)⟩

def zpk : Pk := (0, 0, ⟨#[]⟩)
/-- A packet that is none. -/
def nopk (p : Pk) : Bool := decide (p = zpk)

set_option maxHeartbeats 400000 in
theorem lose_net_no (h : Sat B (net b ps :: L) w) (k : Int) (hk : k < 0 ∨ ps.length ≤ k) :
    Calls Try.prog 15 #[.pointer (some ⟨b, 0, none⟩), .int .i64 k] w fun e w' =>
      e = .returned (.bool false) ∧ Sat B (net b ps :: L) w' := by
  go_enter Try.func15, Try.ntmps15
  go_wp2_with (go_at_call 17; refine (take_net_no h k hk).mono ?_; rintro e w1 ⟨rfl, hS1⟩)
  go_ret
  exact ⟨rfl, ((‹Sat B (net b ps :: L) _›).alloc _).drop⟩

set_option maxHeartbeats 400000 in
theorem lose_net (h : Sat B (net b ps :: L) w) (k : Nat) (hk : k < ps.length) (hle : ps.length ≤ 256) :
    Calls Try.prog 15 #[.pointer (some ⟨b, 0, none⟩), .int .i64 k] w fun e w' =>
      e = .returned (.bool true) ∧ Sat B (net b (ps.eraseIdx k) :: L) w' := by
  go_enter Try.func15, Try.ntmps15
  go_wp2_with (go_at_call 17; refine (take_net h k hk hle).mono ?_; rintro e w1 ⟨rfl, hS1⟩)
  go_ret
  exact ⟨rfl, ((‹Sat B (net b _ :: L) _›).alloc _).drop⟩

set_option maxHeartbeats 400000 in
theorem double_net_no (h : Sat B (net b ps :: L) w) (k : Int) (hk : k < 0 ∨ ps.length ≤ k) :
    Calls Try.prog 20 #[.pointer (some ⟨b, 0, none⟩), .int .i64 k] w fun e w' =>
      e = .returned (.bool false) ∧ Sat B (net b ps :: L) w' := by
  rcases hk with hk | hk
  · go_enter Try.func20, Try.ntmps20
    go_wp2
    go_ret
    exact ⟨rfl, h⟩
  · have h0 : 0 ≤ k := by omega
    go_enter Try.func20, Try.ntmps20
    go_wp2_with (go_at_call 16; refine (len_net h).mono ?_; rintro e w' ⟨rfl, rfl⟩)
    go_ret
    exact ⟨rfl, h⟩

set_option maxHeartbeats 400000 in
theorem double_net (h : Sat B (net b ps :: L) w) (k : Nat) (hk : k < ps.length) (hle : ps.length ≤ 256) :
    Calls Try.prog 20 #[.pointer (some ⟨b, 0, none⟩), .int .i64 k] w fun e w' =>
      e = .returned (.bool (decide (ps.length < 256))) ∧ Sat B (net b (if ps.length < 256 then ps ++ [ps[k]] else ps) :: L) w' := by
  obtain ⟨a, c, h'⟩ := net_out h
  have hc : w.cell? ⟨b, 0, none⟩ = some (.slice a ps.length c) := h'.pt_cell 0
  rcases h'.swap.row_form with ⟨hv, h0, _⟩ | ⟨g, off, cap, hv, hn, hcm, hge, hlt, hcells, hfree, hthere⟩
  · omega
  cases hv
  obtain ⟨p0, p1, p2⟩ := pks_get ps k hk
  have c0 := hcells _ _ p0
  have c1 := hcells _ _ p1
  have c2 := hcells _ _ p2
  rw [← Nat.add_assoc] at c1 c2
  clear p0 p1 p2 hcells hfree hthere
  have hS1 := (h.alloc (.cells #[.int .i64 ps[k].1, .int .i64 ps[k].2.1, .string ps[k].2.2] 27)).swap
  have hr1 : reads (w.alloc (.cells #[.int .i64 ps[k].1, .int .i64 ps[k].2.1, .string ps[k].2.2] 27)) (.slice (some ⟨w.heap.size, 0, none⟩) 1 1) 1 (pks [ps[k]]) := by
    refine ⟨_, _, rfl, (fun e => by cases e), Nat.le_refl _, by unfold maxLen; omega, fun j u e => ⟨_, _, rfl, ?_⟩⟩
    rw [World.cell?_alloc_at _ _ _ _ rfl, Nat.zero_add]
    simpa [pks, pcells] using e
  have e1 : min (256 - ps.length) 1 = if ps.length < 256 then 1 else 0 := by split <;> omega
  go_enter Try.func20, Try.ntmps20
  go_wp2_with (first
    | (go_at_call 16; refine (len_net h).mono ?_; rintro e w' ⟨rfl, rfl⟩)
    | (go_at_call 13; refine (send_net hS1 _ _ _ [ps[k]] hr1 rfl hle).mono ?_; rintro e w2 ⟨rfl, hS2⟩))
  · go_ret
    rw [List.take_of_length_le (by simp; omega)] at hS2
    exact ⟨rfl, hS2.swap.drop⟩
  · go_ret
    rw [show 256 - ps.length = 0 by omega, List.take_zero, List.append_nil] at hS2
    exact ⟨rfl, hS2.swap.drop⟩

set_option maxHeartbeats 400000 in
theorem packet_any (c : Nat) (hc : c < 256) (h : Sat B L w) :
    Calls Try.prog 14 #[.int .u8 c] w fun e w' => e = .returned (.agg #[.int .i64 1, .int .i64 2, .string ⟨#[UInt8.ofNat c]⟩]) ∧ Sat B L w' := by
  have hu : u8s [UInt8.ofNat c] = [.int .u8 c] := by simp [u8s, UInt8.toNat_ofNat']; omega
  have hr : reads ((w.alloc (.cells #[.int .i64 0, .int .i64 0, .string ⟨#[]⟩] 27)).alloc (.cells #[.int .u8 c] 5)) (.slice (some ⟨w.heap.size + 1, 0, none⟩) 1 1) 1 (u8s [UInt8.ofNat c]) := by
    rw [hu]
    exact reads_new #[.int .u8 c] _ (by simp) (by omega)
  clear hu
  go_enter Try.func14, Try.ntmps14
  go_wp2_with (refine wpList_bytes_string rfl (.tmp 4) rfl Try.underlying22 Try.underlying5 Try.underlying9 (.slice (some ⟨w.heap.size + 1, 0, none⟩) 1 1) 1 [UInt8.ofNat c] rfl hr rfl ?_)
  refine bodyPost_ret (v := .agg #[.int .i64 1, .int .i64 2, .string ⟨#[UInt8.ofNat c]⟩]) (by simp [results, Try.results14, go_sem]) rfl ⟨rfl, ?_⟩
  exact ((h.alloc _).alloc _).drop.drop
/-- The same, its argument over Int, its letter by an equation. -/
theorem packet_int {c : Int} {u : UInt8} (hc : c = u.toNat) (h : Sat B L w) :
    Calls Try.prog 14 #[.int .u8 c] w fun e w' => e = .returned (.agg #[.int .i64 1, .int .i64 2, .string ⟨#[u]⟩]) ∧ Sat B L w' := by
  subst hc
  have := packet_any u.toNat u.toNat_lt h
  simpa using this
/-- Lose, at whatever place that is not below 0. -/
theorem lose_int (h : Sat B (net b ps :: L) w) (k : Int) (hk : 0 ≤ k) (hle : ps.length ≤ 256) :
    Calls Try.prog 15 #[.pointer (some ⟨b, 0, none⟩), .int .i64 k] w fun e w' =>
      e = .returned (.bool (decide (k < ps.length))) ∧ Sat B (net b (ps.eraseIdx k.toNat) :: L) w' := by
  obtain ⟨j, rfl⟩ := Int.eq_ofNat_of_zero_le hk
  by_cases hj : j < ps.length
  · refine (lose_net h j hj hle).mono ?_
    rintro e w' ⟨rfl, h'⟩
    exact ⟨by simp [hj], h'⟩
  · refine (lose_net_no h j (.inr (by omega))).mono ?_
    rintro e w' ⟨rfl, h'⟩
    refine ⟨by simp [hj], ?_⟩
    rw [List.eraseIdx_of_length_le (by simp; omega)]
    exact h'
end
end Go.Proofs.Ytgccdndlpjbkhaa
