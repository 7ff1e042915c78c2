/-
  NetKnown: the walk; and what package net's functions answer of a net that is none.
-/
import Derived.Test.YtgccdndlpjbkhaaNet3
import Derived.Lib.Hide
namespace Go.Proofs.Ytgccdndlpjbkhaa
open Go.RowKit
section
variable {B w : World} {L : List HP} {b : Nat} {ps : List Pk}

set_option maxHeartbeats 400000 in
theorem len_none (w : World) : Calls Try.prog 16 #[.pointer none] w fun e w' => e = .returned (.int .i64 0) ∧ w = w' := by
  go_enter Try.func16, Try.ntmps16
  go_wp2
  go_ret
  exact ⟨rfl, rfl⟩
set_option maxHeartbeats 400000 in
theorem send_none (a : Option Addr) (n c : Nat) (w : World) : Calls Try.prog 13 #[.pointer none, .slice a n c] w fun e w' => e = .returned (.int .i64 n) ∧ w = w' := by
  go_enter Try.func13, Try.ntmps13
  go_wp2
  go_ret
  exact ⟨rfl, rfl⟩
set_option maxHeartbeats 400000 in
theorem take_none (h : Sat B L w) : Calls Try.prog 17 #[.pointer none, .int .i64 0] w fun e w' => e = .returned (.tuple #[.agg #[.int .i64 0, .int .i64 0, .string ⟨#[]⟩], .bool false]) ∧ Sat B L w' := by
  go_enter Try.func17, Try.ntmps17
  go_wp2_with fail
  refine (len_none _).mono ?_
  rintro e w' ⟨rfl, rfl⟩
  go_wp2_with fail
  refine bodyPost_ret (v := .tuple #[.agg #[.int .i64 0, .int .i64 0, .string ⟨#[]⟩], .bool false]) (by simp [results, Try.results17, go_sem]) rfl ⟨rfl, ?_⟩
  exact (h.alloc _).drop
set_option maxHeartbeats 400000 in
theorem lose_none (h : Sat B L w) : Calls Try.prog 15 #[.pointer none, .int .i64 0] w fun e w' => e = .returned (.bool false) ∧ Sat B L w' := by
  go_enter Try.func15, Try.ntmps15
  go_wp2_with fail
  refine (take_none h).mono ?_
  rintro e w' ⟨rfl, h1⟩
  go_wp2_with fail
  go_ret
  exact ⟨rfl, (h1.alloc _).drop⟩
set_option maxHeartbeats 400000 in
theorem double_none (w : World) : Calls Try.prog 20 #[.pointer none, .int .i64 0] w fun e w' => e = .returned (.bool false) ∧ w = w' := by
  go_enter Try.func20, Try.ntmps20
  go_wp2_with fail
  refine (len_none _).mono ?_
  rintro e w' ⟨rfl, rfl⟩
  go_wp2_with fail
  go_ret
  exact ⟨rfl, rfl⟩
set_option maxHeartbeats 400000 in
theorem copy_none (w : World) : Calls Try.prog 21 #[.pointer none] w fun e w' => e = .returned (.pointer none) ∧ w = w' := by
  go_enter Try.func21, Try.ntmps21
  go_wp2
  go_ret
  exact ⟨rfl, rfl⟩
set_option maxHeartbeats 400000 in
theorem all_none (h : Sat B L w) : Calls Try.prog 19 #[.pointer none] w fun e w' => ∃ a, e = .returned (.slice a 0 0) ∧ Sat B L w' := by
  go_enter Try.func19, Try.ntmps19
  go_wp2_with (first
    | (go_at_call 16; refine (len_none _).mono ?_; rintro e w' ⟨rfl, rfl⟩)
    | (at_make; refine wpList_make_row rfl packet_elem _ _ rfl 0 0 rfl rfl h (Nat.le_refl _) (by omega) (by omega) ?_; intro a1 w1 hS1))
  go_ret
  exact ⟨_, rfl, (‹Sat B (row _ _ _ _ _ :: L) _›).drop⟩

set_option maxRecDepth 100000 in
set_option maxHeartbeats 2000000 in
theorem known_law (B : World) : Calls Try.prog 6 #[] B fun e w' => e = .returned (.bool true) ∧ Below B.heap.size B w' := by
  have h := Sat.start B
  go_enter Try.func6, Try.ntmps6
  go_wp2_with fail
  refine (new_net h).mono ?_
  rintro e w1 ⟨b, rfl, h1⟩
  go_wp2_with fail
  refine (packet_int (u := 97) rfl h1).mono ?_
  rintro e w2 ⟨rfl, h2⟩
  go_wp2_with fail
  refine (packet_int (u := 99) rfl h2).mono ?_
  rintro e w3 ⟨rfl, h3⟩
  go_wp2_with fail
  refine (send_net ((h3.alloc _).swap) _ _ 2 [pk 97, pk 99] (reads_new _ _ rfl (by omega)) rfl (by simp)).mono ?_
  rintro e w4 ⟨rfl, h4⟩
  have h4' : Sat B [net b [pk 97, pk 99]] w4 := h4.swap.drop
  go_wp2_with fail
  refine (double_net h4' 0 (by simp) (by simp)).mono ?_
  rintro e w5 ⟨rfl, h5⟩
  have h5' : Sat B [net b [pk 97, pk 99, pk 97]] w5 := h5
  go_wp2_with fail
  refine (lose_net h5' 0 (by simp) (by simp)).mono ?_
  rintro e w6 ⟨rfl, h6⟩
  have h6' : Sat B [net b [pk 99, pk 97]] w6 := h6
  clear h h1 h2 h3 h4 h5 h6 h4' h5'
  go_wp2_with fail
  refine (all_net h6' (by simp)).mono ?_
  rintro e w7 ⟨a7, c7, rfl, h7⟩
  go_wp2_with fail
  refine (take_net_no h7.swap 2 (.inr (by simp))).mono ?_
  rintro e w8 ⟨rfl, h8⟩
  go_wp2_with fail
  refine (take_net_no (h8.alloc _).swap (-1) (.inl (by omega))).mono ?_
  rintro e w9 ⟨rfl, h9⟩
  have h9' := h9.swap.drop.swap
  clear h6' h7 h8 h9
  go_wp2_with fail
  rcases h9'.row_form with ⟨hv, h0, _⟩ | ⟨g, off, cap, hv, _, _, _, _, _, _, _⟩
  · cases h0
  cases hv
  have hS : ∀ w' : World, Sat B [pkrow (some ⟨g, off, none⟩) c7 [pk 99, pk 97], net b [pk 99, pk 97]] w' →
      w'.cell? ⟨g, off, none⟩ = some (.int .i64 1) ∧ w'.cell? ⟨g, off + 1, none⟩ = some (.int .i64 2) ∧ w'.cell? ⟨g, off + 2, none⟩ = some (.string ⟨#[99]⟩) ∧
      w'.cell? ⟨g, off + 3, none⟩ = some (.int .i64 1) ∧ w'.cell? ⟨g, off + 3 + 1, none⟩ = some (.int .i64 2) ∧ w'.cell? ⟨g, off + 3 + 2, none⟩ = some (.string ⟨#[97]⟩) ∧
      Sat B [pkrow (some ⟨g, off, none⟩) c7 [pk 99, pk 97], net b [pk 99, pk 97]] w' := by
    intro w' h'
    obtain ⟨a, c, hv, _, _, _, hc⟩ := h'.row_reads
    cases hv
    have hq : ∀ j u, (pks [pk 99, pk 97])[j]? = some u → w'.cell? ⟨g, off + j, none⟩ = some u := fun j u e => by
      obtain ⟨b', o', hb, hcc⟩ := hc j u e
      cases hb; exact hcc
    exact ⟨hq 0 _ rfl, hq 1 _ rfl, hq 2 _ rfl, hq 3 _ rfl, hq 4 _ rfl, hq 5 _ rfl, h'⟩
  have hw9 := hS _ (h9'.alloc (.cells #[.int .i64 0, .int .i64 0, .string ⟨#[]⟩] 27)).drop.drew
  go_region_held3 (fun w' => w'.cell? ⟨g, off, none⟩ = some (.int .i64 1) ∧ w'.cell? ⟨g, off + 1, none⟩ = some (.int .i64 2) ∧ w'.cell? ⟨g, off + 2, none⟩ = some (.string ⟨#[99]⟩) ∧
      w'.cell? ⟨g, off + 3, none⟩ = some (.int .i64 1) ∧ w'.cell? ⟨g, off + 3 + 1, none⟩ = some (.int .i64 2) ∧ w'.cell? ⟨g, off + 3 + 2, none⟩ = some (.string ⟨#[97]⟩) ∧
      Sat B [pkrow (some ⟨g, off, none⟩) c7 [pk 99, pk 97], net b [pk 99, pk 97]] w')
    (first | exact hw9 | exact hS _ ‹_› | exact hS _ (‹Sat B [net b _, pkrow _ _ _] _›).swap)
    (first
      | (go_at_call_of 14 (Value.int .u8 97); refine (packet_int (u := 97) rfl (‹_ ∧ _ ∧ _ ∧ _ ∧ _ ∧ _ ∧ Sat B _ _›).2.2.2.2.2.2).mono ?_; rintro e w' ⟨rfl, hw'⟩)
      | (go_at_call_of 14 (Value.int .u8 99); refine (packet_int (u := 99) rfl (‹_ ∧ _ ∧ _ ∧ _ ∧ _ ∧ _ ∧ Sat B _ _›).2.2.2.2.2.2).mono ?_; rintro e w' ⟨rfl, hw'⟩)
      | (go_at_call 15; refine (lose_net_no (‹_ ∧ _ ∧ _ ∧ _ ∧ _ ∧ _ ∧ Sat B _ _›).2.2.2.2.2.2.swap _ (by simp)).mono ?_; rintro e w' ⟨rfl, hw'⟩)
      | (go_at_call 20; refine (double_net_no (‹_ ∧ _ ∧ _ ∧ _ ∧ _ ∧ _ ∧ Sat B _ _›).2.2.2.2.2.2.swap _ (by simp)).mono ?_; rintro e w' ⟨rfl, hw'⟩))
  have hx := (‹_ ∧ _ ∧ _ ∧ _ ∧ _ ∧ _ ∧ Sat B _ _›).2.2.2.2.2.2.drop
  clear hS hw9 h9'
  go_wp2_with (at_make; refine wpList_make_row rfl packet_elem _ _ rfl 255 255 rfl rfl hx (Nat.le_refl _) (by omega) (by unfold maxLen; omega) ?_; intro a1 w10 h10)
  have h10 := ‹Sat B (row _ _ _ _ _ :: _) _›
  have e10 : ∀ k, (List.replicate k (Value.agg #[.int .i64 0, .int .i64 0, .string ⟨#[]⟩]).cells.toList).flatten = pks (List.replicate k (0, 0, ⟨#[]⟩)) := by
    intro k
    induction k with
    | zero => rfl
    | succ k ih => rw [List.replicate_succ, List.replicate_succ, List.flatten_cons, ih]; rfl
  rw [e10] at h10
  clear e10 hx
  refine (send_net h10.swap _ _ 255 _ h10.row_reads (by simp) (by simp)).mono ?_
  rintro e w11 ⟨rfl, h11⟩
  have h11' := h11.swap.drop
  generalize hps : [pk 99, pk 97] ++ List.take (256 - [pk 99, pk 97].length) (List.replicate 255 (0, 0, ⟨#[]⟩)) = ps at h11'
  have hpl : ps.length = 256 := by rw [← hps]; simp
  clear hps h10 h11
  have Hpl := Lib.hid hpl
  clear hpl
  go_wp2_with fail
  refine (packet_int (u := 120) rfl h11').mono ?_
  rintro e w12 ⟨rfl, h12⟩
  go_wp2_with fail
  refine (packet_int (u := 121) rfl h12).mono ?_
  rintro e w13 ⟨rfl, h13⟩
  go_wp2_with fail
  refine (send_net ((h13.alloc _).swap) _ _ 2 [pk 120, pk 121] (reads_new _ _ rfl (by omega)) rfl (by rw [Hpl.out]; omega)).mono ?_
  rintro e w14 ⟨rfl, h14⟩
  have h14' : Sat B [net b ps] w14 := by
    rw [Hpl.out] at h14
    simpa using h14.swap.drop
  rw [Hpl.out]
  clear h14 h13 h12 h11'
  go_wp2_with fail
  refine (len_net h14').mono ?_
  rintro e w15 ⟨rfl, rfl⟩
  rw [Hpl.out]
  go_wp2_with fail
  refine (double_net h14' 0 (by rw [Hpl.out]; omega) (by rw [Hpl.out]; omega)).mono ?_
  rintro e w16 ⟨rfl, h16⟩
  have h16' : Sat B [net b ps] w16 := by
    rw [if_neg (by rw [Hpl.out]; omega)] at h16
    exact h16
  rw [show decide (ps.length < 256) = false by rw [Hpl.out]; rfl]
  clear h14' h16
  go_wp2_with fail
  refine (send_net h16' none 0 0 [] ⟨none, 0, rfl, fun _ => ⟨rfl, rfl⟩, Nat.le_refl _, Nat.zero_le _, fun j u e => by simp [pks] at e⟩ rfl (by rw [Hpl.out]; omega)).mono ?_
  rintro e w17 ⟨rfl, h17⟩
  rw [show (((0 : Nat) : Int) - ((min (256 - ps.length) 0 : Nat) : Int)) = 0 by rw [Nat.min_zero]; rfl]
  have h17' := h17.drop
  clear h16' h17
  go_wp2_with fail
  refine (take_none h17').mono ?_
  rintro e w18 ⟨rfl, h18⟩
  go_wp2_with fail
  refine (packet_int (u := 97) rfl (h18.alloc _).drop).mono ?_
  rintro e w19 ⟨rfl, h19⟩
  go_wp2_with fail
  refine (packet_int (u := 98) rfl h19).mono ?_
  rintro e w20 ⟨rfl, h20⟩
  go_wp2_with fail
  refine (send_none _ _ _ _).mono ?_
  rintro e w21 ⟨rfl, rfl⟩
  have h21 := (h20.alloc (.cells #[.int .i64 1, .int .i64 2, .string ⟨#[97]⟩, .int .i64 1, .int .i64 2, .string ⟨#[98]⟩] 27)).drop
  go_wp2_with fail
  refine (len_none _).mono ?_
  rintro e w22 ⟨rfl, rfl⟩
  go_wp2_with fail
  refine (all_none h21).mono ?_
  rintro e w23 ⟨a23, rfl, h23⟩
  go_wp2_with fail
  refine (double_none _).mono ?_
  rintro e w24 ⟨rfl, rfl⟩
  go_wp2_with fail
  refine (lose_none h23).mono ?_
  rintro e w25 ⟨rfl, h25⟩
  go_wp2_with fail
  refine (copy_none _).mono ?_
  rintro e w26 ⟨rfl, rfl⟩
  go_wp2_with fail
  refine (works_net h25).mono ?_
  rintro e w27 ⟨rfl, h27⟩
  go_wp2_with fail
  go_ret
  exact ⟨rfl, h27.below⟩
end
#print axioms known_law
end Go.Proofs.Ytgccdndlpjbkhaa
