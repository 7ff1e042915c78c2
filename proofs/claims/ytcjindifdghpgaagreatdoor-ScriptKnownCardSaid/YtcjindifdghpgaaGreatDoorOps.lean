/-
  ops: which operations may be: contracts of keys.User, keys.Stored, model.Check, ops.Cmd at an operation's command.
-/
import Derived.Test.YtcjindifdghpgaaGreatDoorProg
import Derived.Test.YtcjindifdghpgaaGreatDoorSlA
import Derived.Test.YtcjindifdghpgaaGreatDoorScrP
import Derived.Lib.Hide
import Derived.BigRegion
namespace Go.Proofs.YtcjindifdghpgaaGreatDoor
set_option linter.all false
open Go.RowKit
section
variable {B w : World} {L : List HP}
/-- May an operation be? -/
def mayOp (k : Int) (r c v : Bs) (has : Bool) (e : Bs) : Bool :=
  (if k = 5 then decide (r.length ≤ 32) else decide (1 ≤ k ∧ k ≤ 4) && decide (r ≠ [] ∧ r.length ≤ 24)) && decide (k = 1 ∨ k = 4 ∨ v = []) && decide (k = 4 ∨ has = false) && decide (k = 4 ∧ has = true ∨ e = []) &&
    decide (c ≠ []) && decide (c.length ≤ 16) && decide (v.length ≤ 256) && decide (e.length ≤ 256)
def userK (r : Bs) : Bool := decide (r ≠ [] ∧ r.length ≤ 24)
theorem emp (s : ByteArray) : (s.toList = []) ↔ s.data = #[] := by rw [show s.toList = s.data.toList from Lib.toList_data s]; simp
theorem empB (s : ByteArray) : s.toList.isEmpty = decide (s.data = #[]) := by rw [Bool.eq_iff_iff]; simp [← emp]
theorem le16 (n : Nat) : ((n : Int) ≤ 16) = (n ≤ 16) := by apply propext; omega
theorem le24 (n : Nat) : ((n : Int) ≤ 24) = (n ≤ 24) := by apply propext; omega
theorem le32 (n : Nat) : ((n : Int) ≤ 32) = (n ≤ 32) := by apply propext; omega
theorem le256 (n : Nat) : ((n : Int) ≤ 256) = (n ≤ 256) := by apply propext; omega
theorem lt16 (n : Nat) : ((16 : Int) < n) = (16 < n) := by apply propext; omega
theorem lt256 (n : Nat) : ((256 : Int) < n) = (256 < n) := by apply propext; omega
theorem puser (r : ByteArray) (w : World) : Calls Tryz.prog 89 #[.string r] w fun y w' => y = .returned (.bool (userK r.data.toList)) ∧ w' = w := by
  go_enter Tryz.func89, Tryz.ntmps89
  go_wp2_with fail
  all_goals
    go_ret
    refine ⟨?_, rfl⟩
    congr 2
    simp [userK, emp, empB, le24, *] at *
    all_goals simp [*]
theorem pstored (r : ByteArray) (w : World) : Calls Tryz.prog 90 #[.string r] w fun y w' => y = .returned (.bool (decide (r.data.toList.length ≤ 32))) ∧ w' = w := by
  go_enter Tryz.func90, Tryz.ntmps90
  go_wp2_with fail
  all_goals
    go_ret
    refine ⟨?_, rfl⟩
    congr 2
    simp [le32, *]
/-- An operation's cells. -/
abbrev opC (k : Int) (r c v : ByteArray) (has : Bool) (e : ByteArray) : Array Value := #[.int .i64 k, .string r, .string c, .string v, .bool has, .string e]
set_option maxHeartbeats 4000000 in
set_option maxRecDepth 100000 in
theorem pcheck (k : Int) (r c v : ByteArray) (has : Bool) (e : ByteArray) (hS : Sat B L w) :
    Calls Tryz.prog 87 #[.agg (opC k r c v has e)] w fun y w' => y = .returned (.int .i64 (if mayOp k r.data.toList c.data.toList v.data.toList has e.data.toList = true then 0 else 2)) ∧ Sat B L w' := by
  have hu := fun w' => puser r w'
  have hst := fun w' => pstored r w'
  obtain ⟨us, hus⟩ : ∃ us, userK r.data.toList = us := ⟨_, rfl⟩
  obtain ⟨st, hst2⟩ : ∃ st, decide (r.data.toList.length ≤ 32) = st := ⟨_, rfl⟩
  rw [hus] at hu
  rw [hst2] at hst
  have Hus := Lib.hid (And.intro hus hst2)
  obtain ⟨ok, hok⟩ : ∃ ok : Int, (if mayOp k r.data.toList c.data.toList v.data.toList has e.data.toList = true then (0 : Int) else 2) = ok := ⟨_, rfl⟩
  rw [hok]
  have Hok := Lib.hid hok
  obtain ⟨mx, hmx0⟩ : ∃ mx : Int, max (v.size : Int) (e.size : Int) = mx := ⟨_, rfl⟩
  have Hmx := Lib.hid (show (256 < mx ↔ 256 < v.size ∨ 256 < e.size) ∧ (mx ≤ 256 ↔ v.size ≤ 256 ∧ e.size ≤ 256) by omega)
  clear hus hst2 hok
  by_cases h1 : k = 1
  · subst h1
    go_enter Tryz.func87, Tryz.ntmps87
    go_wp2_with (first | (go_at_call 89; refine (hu _).mono ?_; rintro y w' ⟨rfl, rfl⟩) | (go_at_call 90; refine (hst _).mono ?_; rintro y w' ⟨rfl, rfl⟩))
    all_goals
      go_ret
      refine ⟨?_, by first | exact ((hS.alloc _).alloc _).drop.drop | exact (((hS.alloc _).alloc _).drew).drop.drop⟩
      obtain ⟨rfl, rfl⟩ := Hus.out
      have hmx := Hmx.out
      rw [← Hok.out]
      refine ret_int ?_
      clear hu hst hS Hok Hus Hmx hmx0
      simp [mayOp, userK, emp, empB, le16, le24, le32, le256, lt16, lt256, hmx] at *
      try (simp_all; done)
      try (simp_all; omega)
      try (intro q1 q2; exact absurd (‹¬r.data = #[] → 24 < r.size› q1) (by omega))
  by_cases h2 : k = 2
  · subst h2
    go_enter Tryz.func87, Tryz.ntmps87
    go_wp2_with (first | (go_at_call 89; refine (hu _).mono ?_; rintro y w' ⟨rfl, rfl⟩) | (go_at_call 90; refine (hst _).mono ?_; rintro y w' ⟨rfl, rfl⟩))
    all_goals
      go_ret
      refine ⟨?_, by first | exact ((hS.alloc _).alloc _).drop.drop | exact (((hS.alloc _).alloc _).drew).drop.drop⟩
      obtain ⟨rfl, rfl⟩ := Hus.out
      have hmx := Hmx.out
      rw [← Hok.out]
      refine ret_int ?_
      clear hu hst hS Hok Hus Hmx hmx0
      simp [mayOp, userK, emp, empB, le16, le24, le32, le256, lt16, lt256, hmx] at *
      try (simp_all; done)
      try (simp_all; omega)
      try (intro q1 q2; exact absurd (‹¬r.data = #[] → 24 < r.size› q1) (by omega))
  by_cases h3 : k = 3
  · subst h3
    go_enter Tryz.func87, Tryz.ntmps87
    go_wp2_with (first | (go_at_call 89; refine (hu _).mono ?_; rintro y w' ⟨rfl, rfl⟩) | (go_at_call 90; refine (hst _).mono ?_; rintro y w' ⟨rfl, rfl⟩))
    all_goals
      go_ret
      refine ⟨?_, by first | exact ((hS.alloc _).alloc _).drop.drop | exact (((hS.alloc _).alloc _).drew).drop.drop⟩
      obtain ⟨rfl, rfl⟩ := Hus.out
      have hmx := Hmx.out
      rw [← Hok.out]
      refine ret_int ?_
      clear hu hst hS Hok Hus Hmx hmx0
      simp [mayOp, userK, emp, empB, le16, le24, le32, le256, lt16, lt256, hmx] at *
      try (simp_all; done)
      try (simp_all; omega)
      try (intro q1 q2; exact absurd (‹¬r.data = #[] → 24 < r.size› q1) (by omega))
  by_cases h5 : k = 5
  · subst h5
    go_enter Tryz.func87, Tryz.ntmps87
    go_wp2_with (first | (go_at_call 89; refine (hu _).mono ?_; rintro y w' ⟨rfl, rfl⟩) | (go_at_call 90; refine (hst _).mono ?_; rintro y w' ⟨rfl, rfl⟩))
    all_goals
      go_ret
      refine ⟨?_, by first | exact ((hS.alloc _).alloc _).drop.drop | exact (((hS.alloc _).alloc _).drew).drop.drop⟩
      obtain ⟨rfl, rfl⟩ := Hus.out
      have hmx := Hmx.out
      rw [← Hok.out]
      refine ret_int ?_
      clear hu hst hS Hok Hus Hmx hmx0
      simp [mayOp, userK, emp, empB, le16, le24, le32, le256, lt16, lt256, hmx] at *
      try (simp_all; done)
      try (simp_all; omega)
      try (intro q1 q2; exact absurd (‹¬r.data = #[] → 24 < r.size› q1) (by omega))
  by_cases h4 : k = 4
  · subst h4
    cases has
    · --<K4f
      go_enter Tryz.func87, Tryz.ntmps87
      go_wp2_with (first | (go_at_call 89; refine (hu _).mono ?_; rintro y w' ⟨rfl, rfl⟩) | (go_at_call 90; refine (hst _).mono ?_; rintro y w' ⟨rfl, rfl⟩))
      go_region
      all_goals go_wp2_with fail
      all_goals
        go_ret
        refine ⟨?_, by first | exact ((hS.alloc _).alloc _).drop.drop | exact (((hS.alloc _).alloc _).drew).drop.drop⟩
        obtain ⟨rfl, rfl⟩ := Hus.out
        have hmx := Hmx.out
        rw [← Hok.out]
        refine ret_int ?_
        clear hu hst hS Hok Hus Hmx hmx0
        simp [mayOp, userK, emp, empB, le16, le24, le32, le256, lt16, lt256, hmx] at *
        try (simp_all; done)
        try (simp_all; omega)
        try (intro q1 q2; exact absurd (‹¬r.data = #[] → 24 < r.size› q1) (by omega))
    · --<K4t
      go_enter Tryz.func87, Tryz.ntmps87
      go_wp2_with (first | (go_at_call 89; refine (hu _).mono ?_; rintro y w' ⟨rfl, rfl⟩) | (go_at_call 90; refine (hst _).mono ?_; rintro y w' ⟨rfl, rfl⟩))
      go_region
      all_goals go_wp2_with fail
      all_goals
        go_ret
        refine ⟨?_, by first | exact ((hS.alloc _).alloc _).drop.drop | exact (((hS.alloc _).alloc _).drew).drop.drop⟩
        obtain ⟨rfl, rfl⟩ := Hus.out
        have hmx := Hmx.out
        rw [← Hok.out]
        refine ret_int ?_
        clear hu hst hS Hok Hus Hmx hmx0
        simp [mayOp, userK, emp, empB, le16, le24, le32, le256, lt16, lt256, hmx] at *
        try (simp_all; done)
        try (simp_all; omega)
        try (intro q1 q2; exact absurd (‹¬r.data = #[] → 24 < r.size› q1) (by omega))
  · --<K6
    go_enter Tryz.func87, Tryz.ntmps87
    go_wp2_with (first | (go_at_call 89; refine (hu _).mono ?_; rintro y w' ⟨rfl, rfl⟩) | (go_at_call 90; refine (hst _).mono ?_; rintro y w' ⟨rfl, rfl⟩))
    all_goals
      go_ret
      refine ⟨?_, by first | exact ((hS.alloc _).alloc _).drop.drop | exact (((hS.alloc _).alloc _).drew).drop.drop⟩
      obtain ⟨rfl, rfl⟩ := Hus.out
      have hmx := Hmx.out
      rw [← Hok.out]
      refine ret_int ?_
      clear hu hst hS Hok Hus Hmx hmx0
      simp [mayOp, userK, emp, empB, le16, le24, le32, le256, lt16, lt256, hmx] at *
      try (simp_all; done)
      try (simp_all; omega)
      try (intro q1 q2; exact absurd (‹¬r.data = #[] → 24 < r.size› q1) (by omega))
end
end Go.Proofs.YtcjindifdghpgaaGreatDoor
