/-
  The packets under way: 'works', which every statement of the layer calls.
-/
import Derived.Test.YtgccdndlpjbkhaaNet2
import Derived.Deep.RegionHeld3
namespace Go.Proofs.Ytgccdndlpjbkhaa
open Go.RowKit
section
variable {B w : World} {L : List HP} {b : Nat} {ps : List Pk}
abbrev pk (c : UInt8) : Pk := (1, 2, ⟨#[c]⟩)

set_option maxHeartbeats 1000000 in
theorem works_net (h : Sat B L w) : Calls Try.prog 18 #[] w fun e w' => e = .returned (.bool true) ∧ Sat B L w' := by
  go_enter Try.func18, Try.ntmps18
  go_wp2_with fail
  refine (new_net h).mono ?_
  rintro e w1 ⟨b, rfl, h1⟩
  go_wp2_with fail
  refine (packet_int (u := 97) rfl h1).mono ?_
  rintro e w2 ⟨rfl, h2⟩
  go_wp2_with fail
  refine (packet_int (u := 98) rfl h2).mono ?_
  rintro e w3 ⟨rfl, h3⟩
  go_wp2_with fail
  refine (packet_int (u := 99) rfl h3).mono ?_
  rintro e w4 ⟨rfl, h4⟩
  go_wp2_with fail
  refine (send_net ((h4.alloc _).swap) _ _ 3 [pk 97, pk 98, pk 99] (reads_new _ _ rfl (by omega)) rfl (by simp)).mono ?_
  rintro e w5 ⟨rfl, h5⟩
  have h5' : Sat B (net b [pk 97, pk 98, pk 99] :: L) w5 := h5.swap.drop
  clear h h1 h2 h3 h4 h5
  go_wp2_with fail
  refine (take_net h5' 1 (by simp) (by simp)).mono ?_
  rintro e w6 ⟨rfl, h6⟩
  have h6' : Sat B (net b [pk 97, pk 99] :: L) w6 := h6
  clear h6 h5'
  go_wp2_with fail
  refine (all_net ((h6'.alloc _).swap) (by simp)).mono ?_
  rintro e w7 ⟨a7, c7, rfl, h7⟩
  go_wp2_with fail
  rcases h7.row_form with ⟨hv, h0, _⟩ | ⟨g, off, cap, hv, _, _, _, _, _, _, _⟩
  · cases h0
  cases hv
  have hS : ∀ w' : World, Sat B (pkrow (some ⟨g, off, none⟩) c7 [pk 97, pk 99] :: net b [pk 97, pk 99] :: pt w6.heap.size (.cells #[.int .i64 1, .int .i64 2, .string ⟨#[98]⟩] 27) :: L) w' →
      w'.cell? ⟨w6.heap.size, 0, none⟩ = some (.int .i64 1) ∧ w'.cell? ⟨w6.heap.size, 1, none⟩ = some (.int .i64 2) ∧ w'.cell? ⟨w6.heap.size, 2, none⟩ = some (.string ⟨#[98]⟩) ∧
      w'.cell? ⟨g, off, none⟩ = some (.int .i64 1) ∧ w'.cell? ⟨g, off + 1, none⟩ = some (.int .i64 2) ∧ w'.cell? ⟨g, off + 2, none⟩ = some (.string ⟨#[97]⟩) ∧
      w'.cell? ⟨g, off + 3, none⟩ = some (.int .i64 1) ∧ w'.cell? ⟨g, off + 3 + 1, none⟩ = some (.int .i64 2) ∧ w'.cell? ⟨g, off + 3 + 2, none⟩ = some (.string ⟨#[99]⟩) ∧
      Sat B (pkrow (some ⟨g, off, none⟩) c7 [pk 97, pk 99] :: net b [pk 97, pk 99] :: pt w6.heap.size (.cells #[.int .i64 1, .int .i64 2, .string ⟨#[98]⟩] 27) :: L) w' := by
    intro w' h'
    obtain ⟨a, c, hv, _, _, _, hc⟩ := h'.row_reads
    cases hv
    have hq : ∀ j u, (pks [pk 97, pk 99])[j]? = some u → w'.cell? ⟨g, off + j, none⟩ = some u := fun j u e => by
      obtain ⟨b', o', hb, hcc⟩ := hc j u e
      cases hb; exact hcc
    exact ⟨h'.p2.pt_cell 0, h'.p2.pt_cell 1, h'.p2.pt_cell 2, hq 0 _ rfl, hq 1 _ rfl, hq 2 _ rfl, hq 3 _ rfl, hq 4 _ rfl, hq 5 _ rfl, h'⟩
  have hw7 := hS w7.drew h7.drew
  go_region_held3 (fun w' => w'.cell? ⟨w6.heap.size, 0, none⟩ = some (.int .i64 1) ∧ w'.cell? ⟨w6.heap.size, 1, none⟩ = some (.int .i64 2) ∧ w'.cell? ⟨w6.heap.size, 2, none⟩ = some (.string ⟨#[98]⟩) ∧
      w'.cell? ⟨g, off, none⟩ = some (.int .i64 1) ∧ w'.cell? ⟨g, off + 1, none⟩ = some (.int .i64 2) ∧ w'.cell? ⟨g, off + 2, none⟩ = some (.string ⟨#[97]⟩) ∧
      w'.cell? ⟨g, off + 3, none⟩ = some (.int .i64 1) ∧ w'.cell? ⟨g, off + 3 + 1, none⟩ = some (.int .i64 2) ∧ w'.cell? ⟨g, off + 3 + 2, none⟩ = some (.string ⟨#[99]⟩) ∧
      Sat B (pkrow (some ⟨g, off, none⟩) c7 [pk 97, pk 99] :: net b [pk 97, pk 99] :: pt w6.heap.size (.cells #[.int .i64 1, .int .i64 2, .string ⟨#[98]⟩] 27) :: L) w')
    (first | exact hw7 | exact hS _ ‹_›)
    (first
      | (go_at_call_of 14 (Value.int .u8 97); refine (packet_int (u := 97) rfl (‹_ ∧ _ ∧ _ ∧ _ ∧ _ ∧ _ ∧ _ ∧ _ ∧ _ ∧ Sat B _ _›).2.2.2.2.2.2.2.2.2).mono ?_; rintro e w' ⟨rfl, hw'⟩)
      | (go_at_call_of 14 (Value.int .u8 98); refine (packet_int (u := 98) rfl (‹_ ∧ _ ∧ _ ∧ _ ∧ _ ∧ _ ∧ _ ∧ _ ∧ _ ∧ Sat B _ _›).2.2.2.2.2.2.2.2.2).mono ?_; rintro e w' ⟨rfl, hw'⟩)
      | (go_at_call_of 14 (Value.int .u8 99); refine (packet_int (u := 99) rfl (‹_ ∧ _ ∧ _ ∧ _ ∧ _ ∧ _ ∧ _ ∧ _ ∧ _ ∧ Sat B _ _›).2.2.2.2.2.2.2.2.2).mono ?_; rintro e w' ⟨rfl, hw'⟩)
      | (go_at_call 16; refine (len_net (‹_ ∧ _ ∧ _ ∧ _ ∧ _ ∧ _ ∧ _ ∧ _ ∧ _ ∧ Sat B _ _›).2.2.2.2.2.2.2.2.2.swap).mono ?_; rintro e w' ⟨rfl, rfl⟩))
  go_wp2
  go_ret
  exact ⟨rfl, (‹_ ∧ _ ∧ _ ∧ _ ∧ _ ∧ _ ∧ _ ∧ _ ∧ _ ∧ Sat B _ _›).2.2.2.2.2.2.2.2.2.drop.drop.drop⟩
end
#print axioms works_net
end Go.Proofs.Ytgccdndlpjbkhaa
