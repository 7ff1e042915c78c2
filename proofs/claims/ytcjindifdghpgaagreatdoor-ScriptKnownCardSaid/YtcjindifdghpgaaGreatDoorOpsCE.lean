/-
  The document's: which operations may be (acreageref15.May): contract. The document's OpText: contract. (Printed by a program of this repo: gen/opse.py.)
-/
import Derived.Test.YtcjindifdghpgaaGreatDoorOps4
import Derived.Test.YtcjindifdghpgaaGreatDoorScr1
import Derived.Deep.RegionHeld3
namespace Go.Proofs.YtcjindifdghpgaaGreatDoor
set_option linter.all false
open Go.RowKit
section
variable {B w : World} {L : List HP}
theorem dsz (s : ByteArray) : (s.data = #[]) ↔ s.size = 0 := by
  rw [← Array.size_eq_zero_iff]; rfl
theorem ge1 (s : ByteArray) : ((1 : Int) ≤ s.size) = ¬ s.data = #[] := by rw [dsz]; apply propext; omega
theorem lt1 (s : ByteArray) : ((s.size : Int) < 1) = (s.data = #[]) := by rw [dsz]; apply propext; omega
theorem ruser (r : ByteArray) (w : World) : Calls Tryz.prog 67 #[.string r] w fun y w' => y = .returned (.bool (userK r.data.toList)) ∧ w' = w := by
  go_enter Tryz.func67, Tryz.ntmps67
  go_wp2_with fail
  all_goals
    go_ret
    refine ⟨?_, rfl⟩
    show Ending.returned (Value.bool _) = Ending.returned (Value.bool _)
    congr 2
    simp only [ge1, lt1] at *
    simp [userK, le24, *]
theorem rstored (r : ByteArray) (w : World) : Calls Tryz.prog 68 #[.string r] w fun y w' => y = .returned (.bool (decide (r.data.toList.length ≤ 32))) ∧ w' = w := by
  go_enter Tryz.func68, Tryz.ntmps68
  go_wp2_with fail
  all_goals
    go_ret
    refine ⟨?_, rfl⟩
    congr 2
    simp [le32, *]
set_option maxHeartbeats 4000000 in
set_option maxRecDepth 100000 in
theorem rmayop (k : Int) (r c v : ByteArray) (has : Bool) (e : ByteArray) (hS : Sat B L w) :
    Calls Tryz.prog 42 #[.agg (opC k r c v has e)] w fun y w' => y = .returned (.bool (mayOp k r.data.toList c.data.toList v.data.toList has e.data.toList)) ∧ Sat B L w' := by
  have hu := fun w' => ruser r w'
  have hst := fun w' => rstored r w'
  obtain ⟨us, hus⟩ : ∃ us, userK r.data.toList = us := ⟨_, rfl⟩
  obtain ⟨st, hst2⟩ : ∃ st, decide (r.data.toList.length ≤ 32) = st := ⟨_, rfl⟩
  rw [hus] at hu
  rw [hst2] at hst
  have Hus := Lib.hid (And.intro hus hst2)
  obtain ⟨ok, hok⟩ : ∃ ok, mayOp k r.data.toList c.data.toList v.data.toList has e.data.toList = ok := ⟨_, rfl⟩
  rw [hok]
  have Hok := Lib.hid hok
  clear hus hst2 hok
  by_cases h1 : k = 1
  · subst h1
    go_enter Tryz.func42, Tryz.ntmps42
    go_wp2_with (first | (go_at_call 67; refine (hu _).mono ?_; rintro y w' ⟨rfl, rfl⟩) | (go_at_call 68; refine (hst _).mono ?_; rintro y w' ⟨rfl, rfl⟩))
    all_goals
      go_ret
      refine ⟨?_, by first | exact ((hS.alloc _).alloc _).drop.drop | exact (((hS.alloc _).alloc _).drew).drop.drop⟩
      obtain ⟨rfl, rfl⟩ := Hus.out
      rw [← Hok.out]
      clear hu hst hS Hok Hus
      congr 2
      simp [mayOp, userK, emp, empB, le16, le24, le32, le256, lt16, lt256, ge1, lt1] at *
      try (simp_all; done)
      try (simp_all; omega)
      try (intros; exact absurd (‹¬r.data = #[] → 24 < r.size› ‹_›) (by omega))
  by_cases h2 : k = 2
  · subst h2
    go_enter Tryz.func42, Tryz.ntmps42
    go_wp2_with (first | (go_at_call 67; refine (hu _).mono ?_; rintro y w' ⟨rfl, rfl⟩) | (go_at_call 68; refine (hst _).mono ?_; rintro y w' ⟨rfl, rfl⟩))
    all_goals
      go_ret
      refine ⟨?_, by first | exact ((hS.alloc _).alloc _).drop.drop | exact (((hS.alloc _).alloc _).drew).drop.drop⟩
      obtain ⟨rfl, rfl⟩ := Hus.out
      rw [← Hok.out]
      clear hu hst hS Hok Hus
      congr 2
      simp [mayOp, userK, emp, empB, le16, le24, le32, le256, lt16, lt256, ge1, lt1] at *
      try (simp_all; done)
      try (simp_all; omega)
      try (intros; exact absurd (‹¬r.data = #[] → 24 < r.size› ‹_›) (by omega))
  by_cases h3 : k = 3
  · subst h3
    go_enter Tryz.func42, Tryz.ntmps42
    go_wp2_with (first | (go_at_call 67; refine (hu _).mono ?_; rintro y w' ⟨rfl, rfl⟩) | (go_at_call 68; refine (hst _).mono ?_; rintro y w' ⟨rfl, rfl⟩))
    all_goals
      go_ret
      refine ⟨?_, by first | exact ((hS.alloc _).alloc _).drop.drop | exact (((hS.alloc _).alloc _).drew).drop.drop⟩
      obtain ⟨rfl, rfl⟩ := Hus.out
      rw [← Hok.out]
      clear hu hst hS Hok Hus
      congr 2
      simp [mayOp, userK, emp, empB, le16, le24, le32, le256, lt16, lt256, ge1, lt1] at *
      try (simp_all; done)
      try (simp_all; omega)
      try (intros; exact absurd (‹¬r.data = #[] → 24 < r.size› ‹_›) (by omega))
  by_cases h5 : k = 5
  · subst h5
    go_enter Tryz.func42, Tryz.ntmps42
    go_wp2_with (first | (go_at_call 67; refine (hu _).mono ?_; rintro y w' ⟨rfl, rfl⟩) | (go_at_call 68; refine (hst _).mono ?_; rintro y w' ⟨rfl, rfl⟩))
    all_goals
      go_ret
      refine ⟨?_, by first | exact ((hS.alloc _).alloc _).drop.drop | exact (((hS.alloc _).alloc _).drew).drop.drop⟩
      obtain ⟨rfl, rfl⟩ := Hus.out
      rw [← Hok.out]
      clear hu hst hS Hok Hus
      congr 2
      simp [mayOp, userK, emp, empB, le16, le24, le32, le256, lt16, lt256, ge1, lt1] at *
      try (simp_all; done)
      try (simp_all; omega)
      try (intros; exact absurd (‹¬r.data = #[] → 24 < r.size› ‹_›) (by omega))
  by_cases h4 : k = 4
  · subst h4
    cases has
    · --<K4f
      go_enter Tryz.func42, Tryz.ntmps42
      go_wp2_with (first | (go_at_call 67; refine (hu _).mono ?_; rintro y w' ⟨rfl, rfl⟩) | (go_at_call 68; refine (hst _).mono ?_; rintro y w' ⟨rfl, rfl⟩))
      all_goals
        go_ret
        refine ⟨?_, by first | exact ((hS.alloc _).alloc _).drop.drop | exact (((hS.alloc _).alloc _).drew).drop.drop⟩
        obtain ⟨rfl, rfl⟩ := Hus.out
        rw [← Hok.out]
        clear hu hst hS Hok Hus
        congr 2
        simp [mayOp, userK, emp, empB, le16, le24, le32, le256, lt16, lt256, ge1, lt1] at *
        try (simp_all; done)
        try (simp_all; omega)
        try (intros; exact absurd (‹¬r.data = #[] → 24 < r.size› ‹_›) (by omega))
    · --<K4t
      go_enter Tryz.func42, Tryz.ntmps42
      go_wp2_with (first | (go_at_call 67; refine (hu _).mono ?_; rintro y w' ⟨rfl, rfl⟩) | (go_at_call 68; refine (hst _).mono ?_; rintro y w' ⟨rfl, rfl⟩))
      all_goals
        go_ret
        refine ⟨?_, by first | exact ((hS.alloc _).alloc _).drop.drop | exact (((hS.alloc _).alloc _).drew).drop.drop⟩
        obtain ⟨rfl, rfl⟩ := Hus.out
        rw [← Hok.out]
        clear hu hst hS Hok Hus
        congr 2
        simp [mayOp, userK, emp, empB, le16, le24, le32, le256, lt16, lt256, ge1, lt1] at *
        try (simp_all; done)
        try (simp_all; omega)
        try (intros; exact absurd (‹¬r.data = #[] → 24 < r.size› ‹_›) (by omega))
  · --<K6
    go_enter Tryz.func42, Tryz.ntmps42
    go_wp2_with (first | (go_at_call 67; refine (hu _).mono ?_; rintro y w' ⟨rfl, rfl⟩) | (go_at_call 68; refine (hst _).mono ?_; rintro y w' ⟨rfl, rfl⟩))
    all_goals
      go_ret
      refine ⟨?_, by first | exact ((hS.alloc _).alloc _).drop.drop | exact (((hS.alloc _).alloc _).drew).drop.drop⟩
      obtain ⟨rfl, rfl⟩ := Hus.out
      rw [← Hok.out]
      clear hu hst hS Hok Hus
      congr 2
      simp [mayOp, userK, emp, empB, le16, le24, le32, le256, lt16, lt256, ge1, lt1] at *
      try (simp_all; done)
      try (simp_all; omega)
      try (intros; exact absurd (‹¬r.data = #[] → 24 < r.size› ‹_›) (by omega))
end
end Go.Proofs.YtcjindifdghpgaaGreatDoor

namespace Go.Proofs.YtcjindifdghpgaaGreatDoor
set_option linter.all false
open Go.RowKit
section
variable {B w : World} {L : List HP}
theorem ba_ext {a b : ByteArray} (h : a.data.toList = b.data.toList) : a = b := by
  cases a; cases b; simp at h; simp [h]
theorem ba_cat (a b : ByteArray) : (a ++ b).data.toList = a.data.toList ++ b.data.toList := by simp
theorem rword (s : ByteArray) (hs : s.size ≤ 35184372088832) (h : Sat B L w) : Calls Tryz.prog 43 #[.string s] w fun y w' => y = .returned (.string ⟨(wordL s.data.toList).toArray⟩) ∧ Sat B L w' := by
  have hh := rhex s hs h
  by_cases he : s.data.toList = []
  · have hw : wordL s.data.toList = [45] := by rw [wordL, if_pos he]
    have Hw := Lib.hid hw
    have h1 : s.toList = [] := by rw [show s.toList = s.data.toList from Lib.toList_data s]; exact he
    have h2 : s.toList.isEmpty = true := by rw [h1]; rfl
    clear hw he
    go_enter Tryz.func43, Tryz.ntmps43
    go_wp2_with fail
    go_ret
    exact ⟨by rw [Hw.out]; rfl, h⟩
  · have hw : wordL s.data.toList = hexL s.data.toList := by rw [wordL, if_neg he]
    have Hw := Lib.hid hw
    have h1 : s.toList ≠ [] := by rw [show s.toList = s.data.toList from Lib.toList_data s]; exact he
    have h2 : s.toList.isEmpty = false := by (cases h : s.toList with | nil => exact absurd h h1 | cons _ _ => rfl)
    clear hw he
    go_enter Tryz.func43, Tryz.ntmps43
    go_wp2_with (go_at_call 69; refine hh.mono ?_; rintro y w1 ⟨rfl, h3⟩)
    go_ret
    exact ⟨by rw [Hw.out]; rfl, h3⟩
set_option maxHeartbeats 1000000 in
set_option maxRecDepth 100000 in
theorem ropText_bad (k : Int) (r c v : ByteArray) (has : Bool) (e : ByteArray) (hm : mayOp k r.data.toList c.data.toList v.data.toList has e.data.toList = false) (hS : Sat B L w) :
    Calls Tryz.prog 13 #[.agg (opC k r c v has e)] w fun y w' => y = .returned (.tuple #[.string ⟨#[]⟩, .int .i64 2]) ∧ Sat B L w' := by
  have hS1 := hS.alloc' (.cells (opC k r c v has e) 42) (n := w.heap.size) rfl
  have hr := rmayop k r c v has e hS1
  rw [hm] at hr
  clear hm
  go_enter Tryz.func13, Tryz.ntmps13
  go_wp2_with (go_at_call 42; refine hr.mono ?_; rintro y w1 ⟨rfl, h1⟩)
  go_ret2
  exact ⟨rfl, h1.drop⟩
set_option maxHeartbeats 4000000 in
set_option maxRecDepth 100000 in
theorem ropText_get (r c v : ByteArray) (has : Bool) (e : ByteArray) (hm : mayOp 2 r.data.toList c.data.toList v.data.toList has e.data.toList = true) (hS : Sat B L w) :
    Calls Tryz.prog 13 #[.agg (opC 2 r c v has e)] w fun y w' => y = .returned (.tuple #[.string ⟨(opLine 2 r.data.toList c.data.toList v.data.toList has e.data.toList).toArray⟩, .int .i64 0]) ∧ Sat B L w' := by
  have hS1 := hS.alloc' (.cells (opC 2 r c v has e) 42) (n := w.heap.size) rfl
  have hr := rmayop 2 r c v has e hS1
  obtain ⟨l1, l2, l3, l4⟩ := may_len hm
  rw [hm] at hr
  have hr1 : r.size ≤ 35184372088832 := by have : r.data.toList.length = r.size := slenB r; omega
  have hc1 : c.size ≤ 35184372088832 := by have : c.data.toList.length = c.size := slenB c; omega
  have hv1 : v.size ≤ 35184372088832 := by have : v.data.toList.length = v.size := slenB v; omega
  have he1 : e.size ≤ 35184372088832 := by have : e.data.toList.length = e.size := slenB e; omega
  obtain ⟨wr, hwr⟩ : ∃ wr : ByteArray, (⟨(wordL r.data.toList).toArray⟩ : ByteArray) = wr := ⟨_, rfl⟩
  obtain ⟨wc, hwc⟩ : ∃ wc : ByteArray, (⟨(wordL c.data.toList).toArray⟩ : ByteArray) = wc := ⟨_, rfl⟩
  obtain ⟨wv, hwv⟩ : ∃ wv : ByteArray, (⟨(wordL v.data.toList).toArray⟩ : ByteArray) = wv := ⟨_, rfl⟩
  obtain ⟨we, hwe⟩ : ∃ we : ByteArray, (⟨(wordL e.data.toList).toArray⟩ : ByteArray) = we := ⟨_, rfl⟩
  have hpr := fun (M : List HP) (w' : World) (h' : Sat B M w') => rword r hr1 h'
  have hpc := fun (M : List HP) (w' : World) (h' : Sat B M w') => rword c hc1 h'
  have hpv := fun (M : List HP) (w' : World) (h' : Sat B M w') => rword v hv1 h'
  have hpe := fun (M : List HP) (w' : World) (h' : Sat B M w') => rword e he1 h'
  rw [hwr] at hpr
  rw [hwc] at hpc
  rw [hwv] at hpv
  rw [hwe] at hpe
  have zr : wr.size ≤ 1000 := by rw [← hwr]; show (wordL _).length ≤ _; have := wordL_len r.data.toList; omega
  have zc : wc.size ≤ 1000 := by rw [← hwc]; show (wordL _).length ≤ _; have := wordL_len c.data.toList; omega
  have zv : wv.size ≤ 1000 := by rw [← hwv]; show (wordL _).length ≤ _; have := wordL_len v.data.toList; omega
  have ze : we.size ≤ 1000 := by rw [← hwe]; show (wordL _).length ≤ _; have := wordL_len e.data.toList; omega
  have y1 : ¬ 9223372036854775807 < 1 + wr.size := by omega
  have y2 : ¬ 9223372036854775807 < 1 + wr.size + 1 := by omega
  have y3 : ¬ 9223372036854775807 < 1 + wr.size + 1 + wc.size := by omega
  have y4 : ¬ 9223372036854775807 < 5 + (1 + wr.size + 1 + wc.size) := by omega
  have y5 : ¬ 9223372036854775807 < 5 + (1 + wr.size + 1 + wc.size) + 1 := by omega
  have y6 : ¬ 9223372036854775807 < 5 + (1 + wr.size + 1 + wc.size) + 1 + wv.size := by omega
  have y7 : ¬ 9223372036854775807 < 5 + (1 + wr.size + 1 + wc.size) + 1 + wv.size + 5 := by omega
  have y8 : ¬ 9223372036854775807 < 5 + (1 + wr.size + 1 + wc.size) + 1 + wv.size + 5 + we.size := by omega
  have Hw := Lib.hid (And.intro hwr (And.intro hwc (And.intro hwv hwe)))
  clear hm l1 l2 l3 l4 hwr hwc hwv hwe hr1 hc1 hv1 he1
  go_enter Tryz.func13, Tryz.ntmps13
  go_wp2_with (go_at_call 42; refine hr.mono ?_; rintro y w1 ⟨rfl, h1⟩)
  obtain ⟨b1, hb1⟩ : ∃ b1, w.heap.size = b1 := ⟨_, rfl⟩
  rw [hb1] at h1 ⊢
  clear hb1 hr hS hS1
  have hK : ∀ w', Sat B (pt b1 (.cells (opC 2 r c v has e) 42) :: L) w' → (fun w' => w'.cell? ⟨b1, 0, none⟩ = some (.int .i64 2) ∧ w'.cell? ⟨b1, 1, none⟩ = some (.string r) ∧ w'.cell? ⟨b1, 2, none⟩ = some (.string c) ∧ w'.cell? ⟨b1, 3, none⟩ = some (.string v) ∧ w'.cell? ⟨b1, 4, none⟩ = some (.bool has) ∧ w'.cell? ⟨b1, 5, none⟩ = some (.string e) ∧ Sat B (pt b1 (.cells (opC 2 r c v has e) 42) :: L) w') w' := fun w' h' => ⟨h'.pt_cell 0, h'.pt_cell 1, h'.pt_cell 2, h'.pt_cell 3, h'.pt_cell 4, h'.pt_cell 5, h'⟩
  have h0 := hK _ h1.drew
  go_region_held3 (fun w' => w'.cell? ⟨b1, 0, none⟩ = some (.int .i64 2) ∧ w'.cell? ⟨b1, 1, none⟩ = some (.string r) ∧ w'.cell? ⟨b1, 2, none⟩ = some (.string c) ∧ w'.cell? ⟨b1, 3, none⟩ = some (.string v) ∧ w'.cell? ⟨b1, 4, none⟩ = some (.bool has) ∧ w'.cell? ⟨b1, 5, none⟩ = some (.string e) ∧ Sat B (pt b1 (.cells (opC 2 r c v has e) 42) :: L) w')
    (first | exact h0 | exact hK _ ‹_›)
    (first
      | (go_at_call_of 43 r; refine (hpr _ _ ((‹_ ∧ _ ∧ _ ∧ _ ∧ _ ∧ _ ∧ Sat B _ _›).2.2.2.2.2.2)).mono ?_; rintro y w3 ⟨rfl, h3⟩)
      | (go_at_call_of 43 c; refine (hpc _ _ ((‹_ ∧ _ ∧ _ ∧ _ ∧ _ ∧ _ ∧ Sat B _ _›).2.2.2.2.2.2)).mono ?_; rintro y w4 ⟨rfl, h4⟩))
  go_wp2_with fail
  go_ret2
  refine ⟨?_, h4.drop⟩
  have hx : (⟨#[103, 101, 116]⟩ : ByteArray) ++ ((⟨#[32]⟩ : ByteArray) ++ wr ++ (⟨#[32]⟩ : ByteArray) ++ wc) = (⟨(opLine 2 r.data.toList c.data.toList v.data.toList has e.data.toList).toArray⟩ : ByteArray) := by
    refine ba_ext ?_
    obtain ⟨rfl, rfl, rfl, rfl⟩ := Hw.out
    simp [opLine, opWords, nameL, Lib.join_cons, Lib.joinTail]
  rw [← hx]; rfl
set_option maxHeartbeats 4000000 in
set_option maxRecDepth 100000 in
theorem ropText_del (r c v : ByteArray) (has : Bool) (e : ByteArray) (hm : mayOp 3 r.data.toList c.data.toList v.data.toList has e.data.toList = true) (hS : Sat B L w) :
    Calls Tryz.prog 13 #[.agg (opC 3 r c v has e)] w fun y w' => y = .returned (.tuple #[.string ⟨(opLine 3 r.data.toList c.data.toList v.data.toList has e.data.toList).toArray⟩, .int .i64 0]) ∧ Sat B L w' := by
  have hS1 := hS.alloc' (.cells (opC 3 r c v has e) 42) (n := w.heap.size) rfl
  have hr := rmayop 3 r c v has e hS1
  obtain ⟨l1, l2, l3, l4⟩ := may_len hm
  rw [hm] at hr
  have hr1 : r.size ≤ 35184372088832 := by have : r.data.toList.length = r.size := slenB r; omega
  have hc1 : c.size ≤ 35184372088832 := by have : c.data.toList.length = c.size := slenB c; omega
  have hv1 : v.size ≤ 35184372088832 := by have : v.data.toList.length = v.size := slenB v; omega
  have he1 : e.size ≤ 35184372088832 := by have : e.data.toList.length = e.size := slenB e; omega
  obtain ⟨wr, hwr⟩ : ∃ wr : ByteArray, (⟨(wordL r.data.toList).toArray⟩ : ByteArray) = wr := ⟨_, rfl⟩
  obtain ⟨wc, hwc⟩ : ∃ wc : ByteArray, (⟨(wordL c.data.toList).toArray⟩ : ByteArray) = wc := ⟨_, rfl⟩
  obtain ⟨wv, hwv⟩ : ∃ wv : ByteArray, (⟨(wordL v.data.toList).toArray⟩ : ByteArray) = wv := ⟨_, rfl⟩
  obtain ⟨we, hwe⟩ : ∃ we : ByteArray, (⟨(wordL e.data.toList).toArray⟩ : ByteArray) = we := ⟨_, rfl⟩
  have hpr := fun (M : List HP) (w' : World) (h' : Sat B M w') => rword r hr1 h'
  have hpc := fun (M : List HP) (w' : World) (h' : Sat B M w') => rword c hc1 h'
  have hpv := fun (M : List HP) (w' : World) (h' : Sat B M w') => rword v hv1 h'
  have hpe := fun (M : List HP) (w' : World) (h' : Sat B M w') => rword e he1 h'
  rw [hwr] at hpr
  rw [hwc] at hpc
  rw [hwv] at hpv
  rw [hwe] at hpe
  have zr : wr.size ≤ 1000 := by rw [← hwr]; show (wordL _).length ≤ _; have := wordL_len r.data.toList; omega
  have zc : wc.size ≤ 1000 := by rw [← hwc]; show (wordL _).length ≤ _; have := wordL_len c.data.toList; omega
  have zv : wv.size ≤ 1000 := by rw [← hwv]; show (wordL _).length ≤ _; have := wordL_len v.data.toList; omega
  have ze : we.size ≤ 1000 := by rw [← hwe]; show (wordL _).length ≤ _; have := wordL_len e.data.toList; omega
  have y1 : ¬ 9223372036854775807 < 1 + wr.size := by omega
  have y2 : ¬ 9223372036854775807 < 1 + wr.size + 1 := by omega
  have y3 : ¬ 9223372036854775807 < 1 + wr.size + 1 + wc.size := by omega
  have y4 : ¬ 9223372036854775807 < 5 + (1 + wr.size + 1 + wc.size) := by omega
  have y5 : ¬ 9223372036854775807 < 5 + (1 + wr.size + 1 + wc.size) + 1 := by omega
  have y6 : ¬ 9223372036854775807 < 5 + (1 + wr.size + 1 + wc.size) + 1 + wv.size := by omega
  have y7 : ¬ 9223372036854775807 < 5 + (1 + wr.size + 1 + wc.size) + 1 + wv.size + 5 := by omega
  have y8 : ¬ 9223372036854775807 < 5 + (1 + wr.size + 1 + wc.size) + 1 + wv.size + 5 + we.size := by omega
  have Hw := Lib.hid (And.intro hwr (And.intro hwc (And.intro hwv hwe)))
  clear hm l1 l2 l3 l4 hwr hwc hwv hwe hr1 hc1 hv1 he1
  go_enter Tryz.func13, Tryz.ntmps13
  go_wp2_with (go_at_call 42; refine hr.mono ?_; rintro y w1 ⟨rfl, h1⟩)
  obtain ⟨b1, hb1⟩ : ∃ b1, w.heap.size = b1 := ⟨_, rfl⟩
  rw [hb1] at h1 ⊢
  clear hb1 hr hS hS1
  have hK : ∀ w', Sat B (pt b1 (.cells (opC 3 r c v has e) 42) :: L) w' → (fun w' => w'.cell? ⟨b1, 0, none⟩ = some (.int .i64 3) ∧ w'.cell? ⟨b1, 1, none⟩ = some (.string r) ∧ w'.cell? ⟨b1, 2, none⟩ = some (.string c) ∧ w'.cell? ⟨b1, 3, none⟩ = some (.string v) ∧ w'.cell? ⟨b1, 4, none⟩ = some (.bool has) ∧ w'.cell? ⟨b1, 5, none⟩ = some (.string e) ∧ Sat B (pt b1 (.cells (opC 3 r c v has e) 42) :: L) w') w' := fun w' h' => ⟨h'.pt_cell 0, h'.pt_cell 1, h'.pt_cell 2, h'.pt_cell 3, h'.pt_cell 4, h'.pt_cell 5, h'⟩
  have h0 := hK _ h1.drew
  go_region_held3 (fun w' => w'.cell? ⟨b1, 0, none⟩ = some (.int .i64 3) ∧ w'.cell? ⟨b1, 1, none⟩ = some (.string r) ∧ w'.cell? ⟨b1, 2, none⟩ = some (.string c) ∧ w'.cell? ⟨b1, 3, none⟩ = some (.string v) ∧ w'.cell? ⟨b1, 4, none⟩ = some (.bool has) ∧ w'.cell? ⟨b1, 5, none⟩ = some (.string e) ∧ Sat B (pt b1 (.cells (opC 3 r c v has e) 42) :: L) w')
    (first | exact h0 | exact hK _ ‹_›)
    (first
      | (go_at_call_of 43 r; refine (hpr _ _ ((‹_ ∧ _ ∧ _ ∧ _ ∧ _ ∧ _ ∧ Sat B _ _›).2.2.2.2.2.2)).mono ?_; rintro y w3 ⟨rfl, h3⟩)
      | (go_at_call_of 43 c; refine (hpc _ _ ((‹_ ∧ _ ∧ _ ∧ _ ∧ _ ∧ _ ∧ Sat B _ _›).2.2.2.2.2.2)).mono ?_; rintro y w4 ⟨rfl, h4⟩))
  go_wp2_with fail
  go_ret2
  refine ⟨?_, h4.drop⟩
  have hx : (⟨#[100, 101, 108]⟩ : ByteArray) ++ ((⟨#[32]⟩ : ByteArray) ++ wr ++ (⟨#[32]⟩ : ByteArray) ++ wc) = (⟨(opLine 3 r.data.toList c.data.toList v.data.toList has e.data.toList).toArray⟩ : ByteArray) := by
    refine ba_ext ?_
    obtain ⟨rfl, rfl, rfl, rfl⟩ := Hw.out
    simp [opLine, opWords, nameL, Lib.join_cons, Lib.joinTail]
  rw [← hx]; rfl
set_option maxHeartbeats 4000000 in
set_option maxRecDepth 100000 in
theorem ropText_seek (r c v : ByteArray) (has : Bool) (e : ByteArray) (hm : mayOp 5 r.data.toList c.data.toList v.data.toList has e.data.toList = true) (hS : Sat B L w) :
    Calls Tryz.prog 13 #[.agg (opC 5 r c v has e)] w fun y w' => y = .returned (.tuple #[.string ⟨(opLine 5 r.data.toList c.data.toList v.data.toList has e.data.toList).toArray⟩, .int .i64 0]) ∧ Sat B L w' := by
  have hS1 := hS.alloc' (.cells (opC 5 r c v has e) 42) (n := w.heap.size) rfl
  have hr := rmayop 5 r c v has e hS1
  obtain ⟨l1, l2, l3, l4⟩ := may_len hm
  rw [hm] at hr
  have hr1 : r.size ≤ 35184372088832 := by have : r.data.toList.length = r.size := slenB r; omega
  have hc1 : c.size ≤ 35184372088832 := by have : c.data.toList.length = c.size := slenB c; omega
  have hv1 : v.size ≤ 35184372088832 := by have : v.data.toList.length = v.size := slenB v; omega
  have he1 : e.size ≤ 35184372088832 := by have : e.data.toList.length = e.size := slenB e; omega
  obtain ⟨wr, hwr⟩ : ∃ wr : ByteArray, (⟨(wordL r.data.toList).toArray⟩ : ByteArray) = wr := ⟨_, rfl⟩
  obtain ⟨wc, hwc⟩ : ∃ wc : ByteArray, (⟨(wordL c.data.toList).toArray⟩ : ByteArray) = wc := ⟨_, rfl⟩
  obtain ⟨wv, hwv⟩ : ∃ wv : ByteArray, (⟨(wordL v.data.toList).toArray⟩ : ByteArray) = wv := ⟨_, rfl⟩
  obtain ⟨we, hwe⟩ : ∃ we : ByteArray, (⟨(wordL e.data.toList).toArray⟩ : ByteArray) = we := ⟨_, rfl⟩
  have hpr := fun (M : List HP) (w' : World) (h' : Sat B M w') => rword r hr1 h'
  have hpc := fun (M : List HP) (w' : World) (h' : Sat B M w') => rword c hc1 h'
  have hpv := fun (M : List HP) (w' : World) (h' : Sat B M w') => rword v hv1 h'
  have hpe := fun (M : List HP) (w' : World) (h' : Sat B M w') => rword e he1 h'
  rw [hwr] at hpr
  rw [hwc] at hpc
  rw [hwv] at hpv
  rw [hwe] at hpe
  have zr : wr.size ≤ 1000 := by rw [← hwr]; show (wordL _).length ≤ _; have := wordL_len r.data.toList; omega
  have zc : wc.size ≤ 1000 := by rw [← hwc]; show (wordL _).length ≤ _; have := wordL_len c.data.toList; omega
  have zv : wv.size ≤ 1000 := by rw [← hwv]; show (wordL _).length ≤ _; have := wordL_len v.data.toList; omega
  have ze : we.size ≤ 1000 := by rw [← hwe]; show (wordL _).length ≤ _; have := wordL_len e.data.toList; omega
  have y1 : ¬ 9223372036854775807 < 1 + wr.size := by omega
  have y2 : ¬ 9223372036854775807 < 1 + wr.size + 1 := by omega
  have y3 : ¬ 9223372036854775807 < 1 + wr.size + 1 + wc.size := by omega
  have y4 : ¬ 9223372036854775807 < 5 + (1 + wr.size + 1 + wc.size) := by omega
  have y5 : ¬ 9223372036854775807 < 5 + (1 + wr.size + 1 + wc.size) + 1 := by omega
  have y6 : ¬ 9223372036854775807 < 5 + (1 + wr.size + 1 + wc.size) + 1 + wv.size := by omega
  have y7 : ¬ 9223372036854775807 < 5 + (1 + wr.size + 1 + wc.size) + 1 + wv.size + 5 := by omega
  have y8 : ¬ 9223372036854775807 < 5 + (1 + wr.size + 1 + wc.size) + 1 + wv.size + 5 + we.size := by omega
  have Hw := Lib.hid (And.intro hwr (And.intro hwc (And.intro hwv hwe)))
  clear hm l1 l2 l3 l4 hwr hwc hwv hwe hr1 hc1 hv1 he1
  go_enter Tryz.func13, Tryz.ntmps13
  go_wp2_with (go_at_call 42; refine hr.mono ?_; rintro y w1 ⟨rfl, h1⟩)
  obtain ⟨b1, hb1⟩ : ∃ b1, w.heap.size = b1 := ⟨_, rfl⟩
  rw [hb1] at h1 ⊢
  clear hb1 hr hS hS1
  have hK : ∀ w', Sat B (pt b1 (.cells (opC 5 r c v has e) 42) :: L) w' → (fun w' => w'.cell? ⟨b1, 0, none⟩ = some (.int .i64 5) ∧ w'.cell? ⟨b1, 1, none⟩ = some (.string r) ∧ w'.cell? ⟨b1, 2, none⟩ = some (.string c) ∧ w'.cell? ⟨b1, 3, none⟩ = some (.string v) ∧ w'.cell? ⟨b1, 4, none⟩ = some (.bool has) ∧ w'.cell? ⟨b1, 5, none⟩ = some (.string e) ∧ Sat B (pt b1 (.cells (opC 5 r c v has e) 42) :: L) w') w' := fun w' h' => ⟨h'.pt_cell 0, h'.pt_cell 1, h'.pt_cell 2, h'.pt_cell 3, h'.pt_cell 4, h'.pt_cell 5, h'⟩
  have h0 := hK _ h1.drew
  go_region_held3 (fun w' => w'.cell? ⟨b1, 0, none⟩ = some (.int .i64 5) ∧ w'.cell? ⟨b1, 1, none⟩ = some (.string r) ∧ w'.cell? ⟨b1, 2, none⟩ = some (.string c) ∧ w'.cell? ⟨b1, 3, none⟩ = some (.string v) ∧ w'.cell? ⟨b1, 4, none⟩ = some (.bool has) ∧ w'.cell? ⟨b1, 5, none⟩ = some (.string e) ∧ Sat B (pt b1 (.cells (opC 5 r c v has e) 42) :: L) w')
    (first | exact h0 | exact hK _ ‹_›)
    (first
      | (go_at_call_of 43 r; refine (hpr _ _ ((‹_ ∧ _ ∧ _ ∧ _ ∧ _ ∧ _ ∧ Sat B _ _›).2.2.2.2.2.2)).mono ?_; rintro y w3 ⟨rfl, h3⟩)
      | (go_at_call_of 43 c; refine (hpc _ _ ((‹_ ∧ _ ∧ _ ∧ _ ∧ _ ∧ _ ∧ Sat B _ _›).2.2.2.2.2.2)).mono ?_; rintro y w4 ⟨rfl, h4⟩))
  go_wp2_with fail
  go_ret2
  refine ⟨?_, h4.drop⟩
  have hx : (⟨#[115, 101, 101, 107]⟩ : ByteArray) ++ ((⟨#[32]⟩ : ByteArray) ++ wr ++ (⟨#[32]⟩ : ByteArray) ++ wc) = (⟨(opLine 5 r.data.toList c.data.toList v.data.toList has e.data.toList).toArray⟩ : ByteArray) := by
    refine ba_ext ?_
    obtain ⟨rfl, rfl, rfl, rfl⟩ := Hw.out
    simp [opLine, opWords, nameL, Lib.join_cons, Lib.joinTail]
  rw [← hx]; rfl
set_option maxHeartbeats 4000000 in
set_option maxRecDepth 100000 in
theorem ropText_put (r c v : ByteArray) (has : Bool) (e : ByteArray) (hm : mayOp 1 r.data.toList c.data.toList v.data.toList has e.data.toList = true) (hS : Sat B L w) :
    Calls Tryz.prog 13 #[.agg (opC 1 r c v has e)] w fun y w' => y = .returned (.tuple #[.string ⟨(opLine 1 r.data.toList c.data.toList v.data.toList has e.data.toList).toArray⟩, .int .i64 0]) ∧ Sat B L w' := by
  have hS1 := hS.alloc' (.cells (opC 1 r c v has e) 42) (n := w.heap.size) rfl
  have hr := rmayop 1 r c v has e hS1
  obtain ⟨l1, l2, l3, l4⟩ := may_len hm
  rw [hm] at hr
  have hr1 : r.size ≤ 35184372088832 := by have : r.data.toList.length = r.size := slenB r; omega
  have hc1 : c.size ≤ 35184372088832 := by have : c.data.toList.length = c.size := slenB c; omega
  have hv1 : v.size ≤ 35184372088832 := by have : v.data.toList.length = v.size := slenB v; omega
  have he1 : e.size ≤ 35184372088832 := by have : e.data.toList.length = e.size := slenB e; omega
  obtain ⟨wr, hwr⟩ : ∃ wr : ByteArray, (⟨(wordL r.data.toList).toArray⟩ : ByteArray) = wr := ⟨_, rfl⟩
  obtain ⟨wc, hwc⟩ : ∃ wc : ByteArray, (⟨(wordL c.data.toList).toArray⟩ : ByteArray) = wc := ⟨_, rfl⟩
  obtain ⟨wv, hwv⟩ : ∃ wv : ByteArray, (⟨(wordL v.data.toList).toArray⟩ : ByteArray) = wv := ⟨_, rfl⟩
  obtain ⟨we, hwe⟩ : ∃ we : ByteArray, (⟨(wordL e.data.toList).toArray⟩ : ByteArray) = we := ⟨_, rfl⟩
  have hpr := fun (M : List HP) (w' : World) (h' : Sat B M w') => rword r hr1 h'
  have hpc := fun (M : List HP) (w' : World) (h' : Sat B M w') => rword c hc1 h'
  have hpv := fun (M : List HP) (w' : World) (h' : Sat B M w') => rword v hv1 h'
  have hpe := fun (M : List HP) (w' : World) (h' : Sat B M w') => rword e he1 h'
  rw [hwr] at hpr
  rw [hwc] at hpc
  rw [hwv] at hpv
  rw [hwe] at hpe
  have zr : wr.size ≤ 1000 := by rw [← hwr]; show (wordL _).length ≤ _; have := wordL_len r.data.toList; omega
  have zc : wc.size ≤ 1000 := by rw [← hwc]; show (wordL _).length ≤ _; have := wordL_len c.data.toList; omega
  have zv : wv.size ≤ 1000 := by rw [← hwv]; show (wordL _).length ≤ _; have := wordL_len v.data.toList; omega
  have ze : we.size ≤ 1000 := by rw [← hwe]; show (wordL _).length ≤ _; have := wordL_len e.data.toList; omega
  have y1 : ¬ 9223372036854775807 < 1 + wr.size := by omega
  have y2 : ¬ 9223372036854775807 < 1 + wr.size + 1 := by omega
  have y3 : ¬ 9223372036854775807 < 1 + wr.size + 1 + wc.size := by omega
  have y4 : ¬ 9223372036854775807 < 5 + (1 + wr.size + 1 + wc.size) := by omega
  have y5 : ¬ 9223372036854775807 < 5 + (1 + wr.size + 1 + wc.size) + 1 := by omega
  have y6 : ¬ 9223372036854775807 < 5 + (1 + wr.size + 1 + wc.size) + 1 + wv.size := by omega
  have y7 : ¬ 9223372036854775807 < 5 + (1 + wr.size + 1 + wc.size) + 1 + wv.size + 5 := by omega
  have y8 : ¬ 9223372036854775807 < 5 + (1 + wr.size + 1 + wc.size) + 1 + wv.size + 5 + we.size := by omega
  have Hw := Lib.hid (And.intro hwr (And.intro hwc (And.intro hwv hwe)))
  clear hm l1 l2 l3 l4 hwr hwc hwv hwe hr1 hc1 hv1 he1
  go_enter Tryz.func13, Tryz.ntmps13
  go_wp2_with (go_at_call 42; refine hr.mono ?_; rintro y w1 ⟨rfl, h1⟩)
  obtain ⟨b1, hb1⟩ : ∃ b1, w.heap.size = b1 := ⟨_, rfl⟩
  rw [hb1] at h1 ⊢
  clear hb1 hr hS hS1
  have hK : ∀ w', Sat B (pt b1 (.cells (opC 1 r c v has e) 42) :: L) w' → (fun w' => w'.cell? ⟨b1, 0, none⟩ = some (.int .i64 1) ∧ w'.cell? ⟨b1, 1, none⟩ = some (.string r) ∧ w'.cell? ⟨b1, 2, none⟩ = some (.string c) ∧ w'.cell? ⟨b1, 3, none⟩ = some (.string v) ∧ w'.cell? ⟨b1, 4, none⟩ = some (.bool has) ∧ w'.cell? ⟨b1, 5, none⟩ = some (.string e) ∧ Sat B (pt b1 (.cells (opC 1 r c v has e) 42) :: L) w') w' := fun w' h' => ⟨h'.pt_cell 0, h'.pt_cell 1, h'.pt_cell 2, h'.pt_cell 3, h'.pt_cell 4, h'.pt_cell 5, h'⟩
  have h0 := hK _ h1.drew
  go_region_held3 (fun w' => w'.cell? ⟨b1, 0, none⟩ = some (.int .i64 1) ∧ w'.cell? ⟨b1, 1, none⟩ = some (.string r) ∧ w'.cell? ⟨b1, 2, none⟩ = some (.string c) ∧ w'.cell? ⟨b1, 3, none⟩ = some (.string v) ∧ w'.cell? ⟨b1, 4, none⟩ = some (.bool has) ∧ w'.cell? ⟨b1, 5, none⟩ = some (.string e) ∧ Sat B (pt b1 (.cells (opC 1 r c v has e) 42) :: L) w')
    (first | exact h0 | exact hK _ ‹_›)
    (first
      | (go_at_call_of 43 r; refine (hpr _ _ ((‹_ ∧ _ ∧ _ ∧ _ ∧ _ ∧ _ ∧ Sat B _ _›).2.2.2.2.2.2)).mono ?_; rintro y w3 ⟨rfl, h3⟩)
      | (go_at_call_of 43 c; refine (hpc _ _ ((‹_ ∧ _ ∧ _ ∧ _ ∧ _ ∧ _ ∧ Sat B _ _›).2.2.2.2.2.2)).mono ?_; rintro y w4 ⟨rfl, h4⟩))
  go_wp2_with (go_at_call_of 43 v; refine (hpv _ _ h4).mono ?_; rintro y w5 ⟨rfl, h5⟩)
  go_ret2
  refine ⟨?_, h5.drop⟩
  have hx : (⟨#[112, 117, 116]⟩ : ByteArray) ++ ((⟨#[32]⟩ : ByteArray) ++ wr ++ (⟨#[32]⟩ : ByteArray) ++ wc) ++ (⟨#[32]⟩ : ByteArray) ++ wv = (⟨(opLine 1 r.data.toList c.data.toList v.data.toList has e.data.toList).toArray⟩ : ByteArray) := by
    refine ba_ext ?_
    obtain ⟨rfl, rfl, rfl, rfl⟩ := Hw.out
    simp [opLine, opWords, nameL, Lib.join_cons, Lib.joinTail]
  rw [← hx]; rfl
set_option maxHeartbeats 4000000 in
set_option maxRecDepth 100000 in
theorem ropText_none (r c v : ByteArray) (e : ByteArray) (hm : mayOp 4 r.data.toList c.data.toList v.data.toList false e.data.toList = true) (hS : Sat B L w) :
    Calls Tryz.prog 13 #[.agg (opC 4 r c v false e)] w fun y w' => y = .returned (.tuple #[.string ⟨(opLine 4 r.data.toList c.data.toList v.data.toList false e.data.toList).toArray⟩, .int .i64 0]) ∧ Sat B L w' := by
  have hS1 := hS.alloc' (.cells (opC 4 r c v false e) 42) (n := w.heap.size) rfl
  have hr := rmayop 4 r c v false e hS1
  obtain ⟨l1, l2, l3, l4⟩ := may_len hm
  rw [hm] at hr
  have hr1 : r.size ≤ 35184372088832 := by have : r.data.toList.length = r.size := slenB r; omega
  have hc1 : c.size ≤ 35184372088832 := by have : c.data.toList.length = c.size := slenB c; omega
  have hv1 : v.size ≤ 35184372088832 := by have : v.data.toList.length = v.size := slenB v; omega
  have he1 : e.size ≤ 35184372088832 := by have : e.data.toList.length = e.size := slenB e; omega
  obtain ⟨wr, hwr⟩ : ∃ wr : ByteArray, (⟨(wordL r.data.toList).toArray⟩ : ByteArray) = wr := ⟨_, rfl⟩
  obtain ⟨wc, hwc⟩ : ∃ wc : ByteArray, (⟨(wordL c.data.toList).toArray⟩ : ByteArray) = wc := ⟨_, rfl⟩
  obtain ⟨wv, hwv⟩ : ∃ wv : ByteArray, (⟨(wordL v.data.toList).toArray⟩ : ByteArray) = wv := ⟨_, rfl⟩
  obtain ⟨we, hwe⟩ : ∃ we : ByteArray, (⟨(wordL e.data.toList).toArray⟩ : ByteArray) = we := ⟨_, rfl⟩
  have hpr := fun (M : List HP) (w' : World) (h' : Sat B M w') => rword r hr1 h'
  have hpc := fun (M : List HP) (w' : World) (h' : Sat B M w') => rword c hc1 h'
  have hpv := fun (M : List HP) (w' : World) (h' : Sat B M w') => rword v hv1 h'
  have hpe := fun (M : List HP) (w' : World) (h' : Sat B M w') => rword e he1 h'
  rw [hwr] at hpr
  rw [hwc] at hpc
  rw [hwv] at hpv
  rw [hwe] at hpe
  have zr : wr.size ≤ 1000 := by rw [← hwr]; show (wordL _).length ≤ _; have := wordL_len r.data.toList; omega
  have zc : wc.size ≤ 1000 := by rw [← hwc]; show (wordL _).length ≤ _; have := wordL_len c.data.toList; omega
  have zv : wv.size ≤ 1000 := by rw [← hwv]; show (wordL _).length ≤ _; have := wordL_len v.data.toList; omega
  have ze : we.size ≤ 1000 := by rw [← hwe]; show (wordL _).length ≤ _; have := wordL_len e.data.toList; omega
  have y1 : ¬ 9223372036854775807 < 1 + wr.size := by omega
  have y2 : ¬ 9223372036854775807 < 1 + wr.size + 1 := by omega
  have y3 : ¬ 9223372036854775807 < 1 + wr.size + 1 + wc.size := by omega
  have y4 : ¬ 9223372036854775807 < 5 + (1 + wr.size + 1 + wc.size) := by omega
  have y5 : ¬ 9223372036854775807 < 5 + (1 + wr.size + 1 + wc.size) + 1 := by omega
  have y6 : ¬ 9223372036854775807 < 5 + (1 + wr.size + 1 + wc.size) + 1 + wv.size := by omega
  have y7 : ¬ 9223372036854775807 < 5 + (1 + wr.size + 1 + wc.size) + 1 + wv.size + 5 := by omega
  have y8 : ¬ 9223372036854775807 < 5 + (1 + wr.size + 1 + wc.size) + 1 + wv.size + 5 + we.size := by omega
  have Hw := Lib.hid (And.intro hwr (And.intro hwc (And.intro hwv hwe)))
  clear hm l1 l2 l3 l4 hwr hwc hwv hwe hr1 hc1 hv1 he1
  go_enter Tryz.func13, Tryz.ntmps13
  go_wp2_with (go_at_call 42; refine hr.mono ?_; rintro y w1 ⟨rfl, h1⟩)
  obtain ⟨b1, hb1⟩ : ∃ b1, w.heap.size = b1 := ⟨_, rfl⟩
  rw [hb1] at h1 ⊢
  clear hb1 hr hS hS1
  have hK : ∀ w', Sat B (pt b1 (.cells (opC 4 r c v false e) 42) :: L) w' → (fun w' => w'.cell? ⟨b1, 0, none⟩ = some (.int .i64 4) ∧ w'.cell? ⟨b1, 1, none⟩ = some (.string r) ∧ w'.cell? ⟨b1, 2, none⟩ = some (.string c) ∧ w'.cell? ⟨b1, 3, none⟩ = some (.string v) ∧ w'.cell? ⟨b1, 4, none⟩ = some (.bool false) ∧ w'.cell? ⟨b1, 5, none⟩ = some (.string e) ∧ Sat B (pt b1 (.cells (opC 4 r c v false e) 42) :: L) w') w' := fun w' h' => ⟨h'.pt_cell 0, h'.pt_cell 1, h'.pt_cell 2, h'.pt_cell 3, h'.pt_cell 4, h'.pt_cell 5, h'⟩
  have h0 := hK _ h1.drew
  go_region_held3 (fun w' => w'.cell? ⟨b1, 0, none⟩ = some (.int .i64 4) ∧ w'.cell? ⟨b1, 1, none⟩ = some (.string r) ∧ w'.cell? ⟨b1, 2, none⟩ = some (.string c) ∧ w'.cell? ⟨b1, 3, none⟩ = some (.string v) ∧ w'.cell? ⟨b1, 4, none⟩ = some (.bool false) ∧ w'.cell? ⟨b1, 5, none⟩ = some (.string e) ∧ Sat B (pt b1 (.cells (opC 4 r c v false e) 42) :: L) w')
    (first | exact h0 | exact hK _ ‹_›)
    (first
      | (go_at_call_of 43 r; refine (hpr _ _ ((‹_ ∧ _ ∧ _ ∧ _ ∧ _ ∧ _ ∧ Sat B _ _›).2.2.2.2.2.2)).mono ?_; rintro y w3 ⟨rfl, h3⟩)
      | (go_at_call_of 43 c; refine (hpc _ _ ((‹_ ∧ _ ∧ _ ∧ _ ∧ _ ∧ _ ∧ Sat B _ _›).2.2.2.2.2.2)).mono ?_; rintro y w4 ⟨rfl, h4⟩))
  go_wp2_with (go_at_call_of 43 v; refine (hpv _ _ h4).mono ?_; rintro y w5 ⟨rfl, h5⟩)
  go_ret2
  refine ⟨?_, h5.drop⟩
  have hx : (⟨#[99, 104, 101, 99, 107]⟩ : ByteArray) ++ ((⟨#[32]⟩ : ByteArray) ++ wr ++ (⟨#[32]⟩ : ByteArray) ++ wc) ++ (⟨#[32]⟩ : ByteArray) ++ wv ++ (⟨#[32, 110, 111, 110, 101]⟩ : ByteArray) = (⟨(opLine 4 r.data.toList c.data.toList v.data.toList false e.data.toList).toArray⟩ : ByteArray) := by
    refine ba_ext ?_
    obtain ⟨rfl, rfl, rfl, rfl⟩ := Hw.out
    simp [opLine, opWords, nameL, Lib.join_cons, Lib.joinTail]
  rw [← hx]; rfl
set_option maxHeartbeats 4000000 in
set_option maxRecDepth 100000 in
theorem ropText_has (r c v : ByteArray) (e : ByteArray) (hm : mayOp 4 r.data.toList c.data.toList v.data.toList true e.data.toList = true) (hS : Sat B L w) :
    Calls Tryz.prog 13 #[.agg (opC 4 r c v true e)] w fun y w' => y = .returned (.tuple #[.string ⟨(opLine 4 r.data.toList c.data.toList v.data.toList true e.data.toList).toArray⟩, .int .i64 0]) ∧ Sat B L w' := by
  have hS1 := hS.alloc' (.cells (opC 4 r c v true e) 42) (n := w.heap.size) rfl
  have hr := rmayop 4 r c v true e hS1
  obtain ⟨l1, l2, l3, l4⟩ := may_len hm
  rw [hm] at hr
  have hr1 : r.size ≤ 35184372088832 := by have : r.data.toList.length = r.size := slenB r; omega
  have hc1 : c.size ≤ 35184372088832 := by have : c.data.toList.length = c.size := slenB c; omega
  have hv1 : v.size ≤ 35184372088832 := by have : v.data.toList.length = v.size := slenB v; omega
  have he1 : e.size ≤ 35184372088832 := by have : e.data.toList.length = e.size := slenB e; omega
  obtain ⟨wr, hwr⟩ : ∃ wr : ByteArray, (⟨(wordL r.data.toList).toArray⟩ : ByteArray) = wr := ⟨_, rfl⟩
  obtain ⟨wc, hwc⟩ : ∃ wc : ByteArray, (⟨(wordL c.data.toList).toArray⟩ : ByteArray) = wc := ⟨_, rfl⟩
  obtain ⟨wv, hwv⟩ : ∃ wv : ByteArray, (⟨(wordL v.data.toList).toArray⟩ : ByteArray) = wv := ⟨_, rfl⟩
  obtain ⟨we, hwe⟩ : ∃ we : ByteArray, (⟨(wordL e.data.toList).toArray⟩ : ByteArray) = we := ⟨_, rfl⟩
  have hpr := fun (M : List HP) (w' : World) (h' : Sat B M w') => rword r hr1 h'
  have hpc := fun (M : List HP) (w' : World) (h' : Sat B M w') => rword c hc1 h'
  have hpv := fun (M : List HP) (w' : World) (h' : Sat B M w') => rword v hv1 h'
  have hpe := fun (M : List HP) (w' : World) (h' : Sat B M w') => rword e he1 h'
  rw [hwr] at hpr
  rw [hwc] at hpc
  rw [hwv] at hpv
  rw [hwe] at hpe
  have zr : wr.size ≤ 1000 := by rw [← hwr]; show (wordL _).length ≤ _; have := wordL_len r.data.toList; omega
  have zc : wc.size ≤ 1000 := by rw [← hwc]; show (wordL _).length ≤ _; have := wordL_len c.data.toList; omega
  have zv : wv.size ≤ 1000 := by rw [← hwv]; show (wordL _).length ≤ _; have := wordL_len v.data.toList; omega
  have ze : we.size ≤ 1000 := by rw [← hwe]; show (wordL _).length ≤ _; have := wordL_len e.data.toList; omega
  have y1 : ¬ 9223372036854775807 < 1 + wr.size := by omega
  have y2 : ¬ 9223372036854775807 < 1 + wr.size + 1 := by omega
  have y3 : ¬ 9223372036854775807 < 1 + wr.size + 1 + wc.size := by omega
  have y4 : ¬ 9223372036854775807 < 5 + (1 + wr.size + 1 + wc.size) := by omega
  have y5 : ¬ 9223372036854775807 < 5 + (1 + wr.size + 1 + wc.size) + 1 := by omega
  have y6 : ¬ 9223372036854775807 < 5 + (1 + wr.size + 1 + wc.size) + 1 + wv.size := by omega
  have y7 : ¬ 9223372036854775807 < 5 + (1 + wr.size + 1 + wc.size) + 1 + wv.size + 5 := by omega
  have y8 : ¬ 9223372036854775807 < 5 + (1 + wr.size + 1 + wc.size) + 1 + wv.size + 5 + we.size := by omega
  have Hw := Lib.hid (And.intro hwr (And.intro hwc (And.intro hwv hwe)))
  clear hm l1 l2 l3 l4 hwr hwc hwv hwe hr1 hc1 hv1 he1
  go_enter Tryz.func13, Tryz.ntmps13
  go_wp2_with (go_at_call 42; refine hr.mono ?_; rintro y w1 ⟨rfl, h1⟩)
  obtain ⟨b1, hb1⟩ : ∃ b1, w.heap.size = b1 := ⟨_, rfl⟩
  rw [hb1] at h1 ⊢
  clear hb1 hr hS hS1
  have hK : ∀ w', Sat B (pt b1 (.cells (opC 4 r c v true e) 42) :: L) w' → (fun w' => w'.cell? ⟨b1, 0, none⟩ = some (.int .i64 4) ∧ w'.cell? ⟨b1, 1, none⟩ = some (.string r) ∧ w'.cell? ⟨b1, 2, none⟩ = some (.string c) ∧ w'.cell? ⟨b1, 3, none⟩ = some (.string v) ∧ w'.cell? ⟨b1, 4, none⟩ = some (.bool true) ∧ w'.cell? ⟨b1, 5, none⟩ = some (.string e) ∧ Sat B (pt b1 (.cells (opC 4 r c v true e) 42) :: L) w') w' := fun w' h' => ⟨h'.pt_cell 0, h'.pt_cell 1, h'.pt_cell 2, h'.pt_cell 3, h'.pt_cell 4, h'.pt_cell 5, h'⟩
  have h0 := hK _ h1.drew
  go_region_held3 (fun w' => w'.cell? ⟨b1, 0, none⟩ = some (.int .i64 4) ∧ w'.cell? ⟨b1, 1, none⟩ = some (.string r) ∧ w'.cell? ⟨b1, 2, none⟩ = some (.string c) ∧ w'.cell? ⟨b1, 3, none⟩ = some (.string v) ∧ w'.cell? ⟨b1, 4, none⟩ = some (.bool true) ∧ w'.cell? ⟨b1, 5, none⟩ = some (.string e) ∧ Sat B (pt b1 (.cells (opC 4 r c v true e) 42) :: L) w')
    (first | exact h0 | exact hK _ ‹_›)
    (first
      | (go_at_call_of 43 r; refine (hpr _ _ ((‹_ ∧ _ ∧ _ ∧ _ ∧ _ ∧ _ ∧ Sat B _ _›).2.2.2.2.2.2)).mono ?_; rintro y w3 ⟨rfl, h3⟩)
      | (go_at_call_of 43 c; refine (hpc _ _ ((‹_ ∧ _ ∧ _ ∧ _ ∧ _ ∧ _ ∧ Sat B _ _›).2.2.2.2.2.2)).mono ?_; rintro y w4 ⟨rfl, h4⟩))
  go_wp2_with fail
  have h7 := hK _ h4.drew
  go_region_held3 (fun w' => w'.cell? ⟨b1, 0, none⟩ = some (.int .i64 4) ∧ w'.cell? ⟨b1, 1, none⟩ = some (.string r) ∧ w'.cell? ⟨b1, 2, none⟩ = some (.string c) ∧ w'.cell? ⟨b1, 3, none⟩ = some (.string v) ∧ w'.cell? ⟨b1, 4, none⟩ = some (.bool true) ∧ w'.cell? ⟨b1, 5, none⟩ = some (.string e) ∧ Sat B (pt b1 (.cells (opC 4 r c v true e) 42) :: L) w')
    (first | exact h7 | exact hK _ ‹_›)
    (first
      | (go_at_call_of 43 v; refine (hpv _ _ ((‹_ ∧ _ ∧ _ ∧ _ ∧ _ ∧ _ ∧ Sat B _ _›).2.2.2.2.2.2)).mono ?_; rintro y w5 ⟨rfl, h5⟩)
      | (go_at_call_of 43 e; refine (hpe _ _ ((‹_ ∧ _ ∧ _ ∧ _ ∧ _ ∧ _ ∧ Sat B _ _›).2.2.2.2.2.2)).mono ?_; rintro y w6 ⟨rfl, h6⟩))
  go_wp2_with fail
  go_ret2
  refine ⟨?_, h6.drop⟩
  have hx : (⟨#[99, 104, 101, 99, 107]⟩ : ByteArray) ++ ((⟨#[32]⟩ : ByteArray) ++ wr ++ (⟨#[32]⟩ : ByteArray) ++ wc) ++ (⟨#[32]⟩ : ByteArray) ++ wv ++ (⟨#[32, 104, 97, 115, 32]⟩ : ByteArray) ++ we = (⟨(opLine 4 r.data.toList c.data.toList v.data.toList true e.data.toList).toArray⟩ : ByteArray) := by
    refine ba_ext ?_
    obtain ⟨rfl, rfl, rfl, rfl⟩ := Hw.out
    simp [opLine, opWords, nameL, Lib.join_cons, Lib.joinTail]
  rw [← hx]; rfl
theorem ropText (k : Int) (r c v : ByteArray) (has : Bool) (e : ByteArray) (hS : Sat B L w) :
    Calls Tryz.prog 13 #[.agg (opC k r c v has e)] w fun y w' => y = .returned (if mayOp k r.data.toList c.data.toList v.data.toList has e.data.toList = true then .tuple #[.string ⟨(opLine k r.data.toList c.data.toList v.data.toList has e.data.toList).toArray⟩, .int .i64 0] else .tuple #[.string ⟨#[]⟩, .int .i64 2]) ∧ Sat B L w' := by
  by_cases hm : mayOp k r.data.toList c.data.toList v.data.toList has e.data.toList = true
  · rw [if_pos hm]
    have hk : k = 1 ∨ k = 2 ∨ k = 3 ∨ k = 4 ∨ k = 5 := by
      simp only [mayOp, Bool.and_eq_true] at hm
      have h1 := hm.1.1.1.1.1.1.1
      split at h1
      · omega
      · simp at h1; omega
    rcases hk with rfl | rfl | rfl | rfl | rfl
    · exact ropText_put r c v has e hm hS
    · exact ropText_get r c v has e hm hS
    · exact ropText_del r c v has e hm hS
    · cases has
      · exact ropText_none r c v e hm hS
      · exact ropText_has r c v e hm hS
    · exact ropText_seek r c v has e hm hS
  · rw [if_neg hm]
    exact ropText_bad k r c v has e (by simpa using hm) hS
end
end Go.Proofs.YtcjindifdghpgaaGreatDoor
