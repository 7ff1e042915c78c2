/-
  Script: strconv.ParseUint at base 10 and 31 bits: the public function.
-/
import Derived.Test.YtcjindifdghpgaaGreatDoorScr9
import Derived.Test.YtcjindifdghpgaaGreatDoorScrN
namespace Go.Proofs.YtcjindifdghpgaaGreatDoor
open Go.RowKit
section
variable {B w : World} {L : List HP}
set_option maxHeartbeats 2000000 in
set_option maxRecDepth 100000 in
theorem puint_empty (w : World) : Calls Tryz.prog 82 #[.string ⟨#[]⟩, .int .i64 10, .int .i64 31] w fun e w' => e = .returned (.tuple #[.int .u64 0, .iface 184 (.int .i64 2)]) ∧ w' = w := by
  go_enter Tryz.func82, Tryz.ntmps82
  go_wp2_with fail
  go_ret2
  exact ⟨rfl, rfl⟩
set_option maxHeartbeats 2000000 in
set_option maxRecDepth 100000 in
theorem puint (hE : Env B) (h : Sat B L w) (s : ByteArray) (hs : s.size ≤ 281474976710656) :
    Calls Tryz.prog 58 #[.string s, .int .i64 10, .int .i64 31] w fun e w' => ((∃ u, num31 s.data.toList = some u ∧ e = .returned (.tuple #[.int .u64 u, .nilIface])) ∨ (num31 s.data.toList = none ∧ ∃ (v : Int) (te : TypeId) (p : Value), e = .returned (.tuple #[.int .u64 v, .iface te p]))) ∧ Sat B L w' := by
  by_cases h0 : s.size = 0
  · have hse : s = ⟨#[]⟩ := by
      apply ByteArray.ext
      exact Array.eq_empty_of_size_eq_zero h0
    subst hse
    obtain ⟨t1, p1, hsy⟩ := (hE.at h).synt
    go_enter Tryz.func58, Tryz.ntmps58
    go_wp2_with (first
      | (go_at_call 82; refine (puint_empty _).mono ?_; rintro e w' ⟨rfl, rfl⟩)
      | (go_at_call 83; refine (Tryz.strconv_toError_syntax _ _ _ _ _ _ hs hsy (Or.inr ⟨_, _, rfl⟩)).mono ?_; rintro e w' ⟨N, rfl, hN1, hN2, hbl⟩))
    go_ret2
    exact ⟨.inr ⟨rfl, _, _, _, rfl⟩, h.of_below hbl⟩
  · have hu := puint0 (B := B) (L := L) s h0 (by omega) h
    have hne : s.data.toList ≠ [] := fun e => h0 (by have := congrArg List.length e; simpa using this)
    obtain ⟨r, hr⟩ : ∃ r, Lib.parseUintM 2147483647 0 s.data.toList = r := ⟨_, rfl⟩
    have hnum : num31 s.data.toList = endV r := by rw [num31, if_neg hne, hr]
    rw [hr] at hu
    have Hn := Lib.hid hnum
    clear hnum hr hne
    cases r with
    | ok u =>
      simp only [uintV] at hu
      go_enter Tryz.func58, Tryz.ntmps58
      go_wp2_with (go_at_call 82; refine hu.mono ?_; rintro e w' ⟨rfl, hS⟩)
      go_ret2
      exact ⟨.inl ⟨u, Hn.out, rfl⟩, hS⟩
    | range =>
      simp only [uintV] at hu
      go_enter Tryz.func58, Tryz.ntmps58
      go_wp2_with (first
        | (go_at_call 82; refine hu.mono ?_; rintro e w1 ⟨rfl, hS⟩; obtain ⟨t1, p1, hsy⟩ := (hE.at hS).rng)
        | (go_at_call 83; refine (Tryz.strconv_toError_range _ _ _ _ _ _ hs hsy (Or.inr ⟨_, _, rfl⟩)).mono ?_; rintro e w' ⟨N, rfl, hN1, hN2, hbl⟩))
      go_ret2
      exact ⟨.inr ⟨Hn.out, _, _, _, rfl⟩, hS.of_below hbl⟩
    | _ =>
      simp only [uintV] at hu
      go_enter Tryz.func58, Tryz.ntmps58
      go_wp2_with (first
        | (go_at_call 82; refine hu.mono ?_; rintro e w1 ⟨rfl, hS⟩; obtain ⟨t1, p1, hsy⟩ := (hE.at hS).synt)
        | (go_at_call 83; refine (Tryz.strconv_toError_syntax _ _ _ _ _ _ hs hsy (Or.inr ⟨_, _, rfl⟩)).mono ?_; rintro e w' ⟨N, rfl, hN1, hN2, hbl⟩))
      go_ret2
      exact ⟨.inr ⟨Hn.out, _, _, _, rfl⟩, hS.of_below hbl⟩
end
end Go.Proofs.YtcjindifdghpgaaGreatDoor
