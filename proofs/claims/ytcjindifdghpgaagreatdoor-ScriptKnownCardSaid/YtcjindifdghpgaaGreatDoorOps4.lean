/-
  script.OpText: contract. (Printed by a program of this repo: gen/ops4.py.)
-/
import Derived.Test.YtcjindifdghpgaaGreatDoorOps3
import Derived.Test.YtcjindifdghpgaaGreatDoorScrJ
import Derived.Deep.RegionHeld3
namespace Go.Proofs.YtcjindifdghpgaaGreatDoor
set_option linter.all false
open Go.RowKit
section
variable {B w : World} {L : List HP}
theorem slenB (s : ByteArray) : s.data.toList.length = s.size := by rw [Array.length_toList]; rfl
/-- The words of an operation's line. -/
def opWords (k : Int) (r c v : Bs) (has : Bool) (e : Bs) : List Bs :=
  [nameL k, wordL r, wordL c] ++ (if k = 1 then [wordL v] else if k = 4 then (if has = true then [wordL v, [104, 97, 115], wordL e] else [wordL v, [110, 111, 110, 101]]) else [])
/-- An operation's line. -/
def opLine (k : Int) (r c v : Bs) (has : Bool) (e : Bs) : Bs := Lib.join (opWords k r c v has e) [32]
theorem wordL_len (b : Bs) : (wordL b).length ≤ 2 * b.length + 1 := by
  unfold wordL
  split
  · simp
  · rw [hex_length]; omega
theorem nameL_len (k : Int) : (nameL k).length ≤ 5 := by unfold nameL; (repeat' split) <;> decide
theorem join_len : ∀ (xs : List Bs) (sep : Bs), (Lib.join xs sep).length ≤ (xs.map (·.length + sep.length)).sum
  | [], sep => by simp [Lib.join_nil]
  | x :: r, sep => by
    rw [Lib.join_cons]
    have : ∀ r : List Bs, (Lib.joinTail sep r).length = (r.map (·.length + sep.length)).sum := by
      intro r
      induction r with
      | nil => rfl
      | cons y r ih => simp [Lib.joinTail] at ih ⊢; omega
    simp [this]
theorem may_len {k : Int} {r c v : Bs} {has : Bool} {e : Bs} (h : mayOp k r c v has e = true) : r.length ≤ 32 ∧ c.length ≤ 16 ∧ v.length ≤ 256 ∧ e.length ≤ 256 := by
  simp only [mayOp, Bool.and_eq_true, decide_eq_true_eq] at h
  obtain ⟨⟨⟨⟨⟨⟨⟨h1, _⟩, _⟩, _⟩, _⟩, h2⟩, h3⟩, h4⟩ := h
  refine ⟨?_, h2, h3, h4⟩
  split at h1
  · simpa using h1
  · simp at h1; omega
theorem line_len {k : Int} {r c v : Bs} {has : Bool} {e : Bs} (h : mayOp k r c v has e = true) : (opLine k r c v has e).length ≤ 4000 := by
  obtain ⟨h1, h2, h3, h4⟩ := may_len h
  have a1 := wordL_len r; have a2 := wordL_len c; have a3 := wordL_len v; have a4 := wordL_len e; have a5 := nameL_len k
  refine Nat.le_trans (join_len _ _) ?_
  unfold opWords
  (repeat' split) <;> simp <;> omega
theorem pjoin (g o n cc : Nat) (ws : List Bs) (hn : ws.length = n) (hcc : n ≤ cc) (hl : (Lib.join ws [32]).length ≤ 4000) (hw : n ≤ 10) (hg : B.heap.size ≤ g ∨ True) (h : Sat B (row 9 1 (.slice (some ⟨g, o, none⟩) n cc) n (strL ws) :: L) w) (h0 : 0 < n) :
    Calls Tryz.prog 39 #[.slice (some ⟨g, o, none⟩) n cc, .string ⟨#[32]⟩] w fun y w' => y = .returned (.string ⟨(Lib.join ws [32]).toArray⟩) ∧ Sat B L w' := by
  have hx : (ws.map fun b => (⟨b.toArray⟩ : ByteArray)).map (·.data.toList) = ws := by rw [List.map_map]; exact List.map_id'' (fun _ => rfl) ws
  have hlen : (ws.map fun b => (⟨b.toArray⟩ : ByteArray)).length = n := by rw [List.length_map, hn]
  have hlt : g < w.heap.size := by
    rcases h.row_form with ⟨hx, _⟩ | ⟨g', o', cap, hx, _, _, _, hlt, _⟩
    · cases hx
    · cases hx; exact hlt
  have := Tryz.strings_Join g o cc (ws.map fun b => (⟨b.toArray⟩ : ByteArray)) ⟨#[32]⟩ w (fun j x hj => by
      have hc : (strL ws)[j]? = some (.string x) := by
        rw [List.getElem?_map] at hj
        cases hw : ws[j]? with
        | none => rw [hw] at hj; cases hj
        | some b => rw [hw] at hj; cases hj; simp [strL, hw]
      rcases h.row_form with ⟨hx, _⟩ | ⟨g', o', cap, hx, _, _, _, _, hcell, _⟩
      · cases hx
      · cases hx; exact hcell j _ hc) hlt (by rw [hlen]; omega) (by rw [hlen]; exact hcc) (by rw [hx]; exact Nat.le_trans hl (by omega))
  rw [hlen, hx] at this
  refine this.mono ?_
  rintro y w' ⟨rfl, hb⟩
  exact ⟨rfl, (h.of_below hb).drop⟩
set_option maxHeartbeats 1000000 in
set_option maxRecDepth 100000 in
theorem popText_bad (k : Int) (r c v : ByteArray) (has : Bool) (e : ByteArray) (hm : mayOp k r.data.toList c.data.toList v.data.toList has e.data.toList = false) (hS : Sat B L w) :
    Calls Tryz.prog 10 #[.agg (opC k r c v has e)] w fun y w' => y = .returned (.tuple #[.string ⟨#[]⟩, .int .i64 2]) ∧ Sat B L w' := by
  have hS1 := hS.alloc' (.cells (opC k r c v has e) 42) (n := w.heap.size) rfl
  have hr := pright k r c v has e hS1
  rw [hm] at hr
  clear hm
  go_enter Tryz.func10, Tryz.ntmps10
  go_wp2_with (go_at_call 36; refine hr.mono ?_; rintro y w1 ⟨rfl, h1⟩)
  go_ret2
  exact ⟨rfl, h1.drop⟩
set_option maxHeartbeats 4000000 in
set_option maxRecDepth 100000 in
theorem popText_get (hF : EnvF B) (r c v : ByteArray) (has : Bool) (e : ByteArray) (hm : mayOp 2 r.data.toList c.data.toList v.data.toList has e.data.toList = true) (hS : Sat B L w) :
    Calls Tryz.prog 10 #[.agg (opC 2 r c v has e)] w fun y w' => y = .returned (.tuple #[.string ⟨(opLine 2 r.data.toList c.data.toList v.data.toList has e.data.toList).toArray⟩, .int .i64 0]) ∧ Sat B L w' := by
  have hS1 := hS.alloc' (.cells (opC 2 r c v has e) 42) (n := w.heap.size) rfl
  have hr := pright 2 r c v has e hS1
  obtain ⟨l1, l2, l3, l4⟩ := may_len hm
  have hll := line_len hm
  rw [hm] at hr
  have Hl := Lib.hid (And.intro hll (And.intro l3 l4))
  have hr1 : r.size ≤ 35184372088832 := by have : r.data.toList.length = r.size := slenB r; omega
  have hc1 : c.size ≤ 35184372088832 := by have : c.data.toList.length = c.size := slenB c; omega
  have hv1 : v.size ≤ 35184372088832 := by have : v.data.toList.length = v.size := slenB v; omega
  have he1 : e.size ≤ 35184372088832 := by have : e.data.toList.length = e.size := slenB e; omega
  obtain ⟨wr, hwr⟩ : ∃ wr : ByteArray, (⟨(wordL r.data.toList).toArray⟩ : ByteArray) = wr := ⟨_, rfl⟩
  obtain ⟨wc, hwc⟩ : ∃ wc : ByteArray, (⟨(wordL c.data.toList).toArray⟩ : ByteArray) = wc := ⟨_, rfl⟩
  obtain ⟨wv, hwv⟩ : ∃ wv : ByteArray, (⟨(wordL v.data.toList).toArray⟩ : ByteArray) = wv := ⟨_, rfl⟩
  obtain ⟨we, hwe⟩ : ∃ we : ByteArray, (⟨(wordL e.data.toList).toArray⟩ : ByteArray) = we := ⟨_, rfl⟩
  have hn := fun (M : List HP) (w' : World) (h' : Sat B M w') => pname hF 2 h'
  have hpr := fun (M : List HP) (w' : World) (h' : Sat B M w') => pword r hr1 h'
  have hpc := fun (M : List HP) (w' : World) (h' : Sat B M w') => pword c hc1 h'
  have hpv := fun (M : List HP) (w' : World) (h' : Sat B M w') => pword v hv1 h'
  have hpe := fun (M : List HP) (w' : World) (h' : Sat B M w') => pword e he1 h'
  rw [hwr] at hpr
  rw [hwc] at hpc
  rw [hwv] at hpv
  rw [hwe] at hpe
  have Hw := Lib.hid (And.intro hwr (And.intro hwc (And.intro hwv hwe)))
  clear hm hll l1 l2 l3 l4 hwr hwc hwv hwe hr1 hc1 hv1 he1
  go_enter Tryz.func10, Tryz.ntmps10
  go_wp2_with (go_at_call 36; refine hr.mono ?_; rintro y w1 ⟨rfl, h1⟩)
  obtain ⟨b1, hb1⟩ : ∃ b1, w.heap.size = b1 := ⟨_, rfl⟩
  rw [hb1] at h1 ⊢
  clear hb1 hr hS hS1
  have hK : ∀ w', Sat B (pt b1 (.cells (opC 2 r c v has e) 42) :: L) w' → (fun w' => w'.cell? ⟨b1, 0, none⟩ = some (.int .i64 2) ∧ w'.cell? ⟨b1, 1, none⟩ = some (.string r) ∧ w'.cell? ⟨b1, 2, none⟩ = some (.string c) ∧ w'.cell? ⟨b1, 3, none⟩ = some (.string v) ∧ w'.cell? ⟨b1, 4, none⟩ = some (.bool has) ∧ w'.cell? ⟨b1, 5, none⟩ = some (.string e) ∧ Sat B (pt b1 (.cells (opC 2 r c v has e) 42) :: L) w') w' := fun w' h' => ⟨h'.pt_cell 0, h'.pt_cell 1, h'.pt_cell 2, h'.pt_cell 3, h'.pt_cell 4, h'.pt_cell 5, h'⟩
  have h0 := hK _ h1.drew
  go_region_held3 (fun w' => w'.cell? ⟨b1, 0, none⟩ = some (.int .i64 2) ∧ w'.cell? ⟨b1, 1, none⟩ = some (.string r) ∧ w'.cell? ⟨b1, 2, none⟩ = some (.string c) ∧ w'.cell? ⟨b1, 3, none⟩ = some (.string v) ∧ w'.cell? ⟨b1, 4, none⟩ = some (.bool has) ∧ w'.cell? ⟨b1, 5, none⟩ = some (.string e) ∧ Sat B (pt b1 (.cells (opC 2 r c v has e) 42) :: L) w')
    (first | exact h0 | exact hK _ ‹_› | exact hK _ (Sat.drop (Sat.alloc ((‹_ ∧ _ ∧ _ ∧ _ ∧ _ ∧ _ ∧ Sat B _ _›).2.2.2.2.2.2) _)))
    (first
      | (go_at_call 37; refine (hn _ _ ((‹_ ∧ _ ∧ _ ∧ _ ∧ _ ∧ _ ∧ Sat B _ _›).2.2.2.2.2.2)).mono ?_; rintro y w2 ⟨rfl, h2⟩)
      | (go_at_call_of 38 r; refine (hpr _ _ ((‹_ ∧ _ ∧ _ ∧ _ ∧ _ ∧ _ ∧ Sat B _ _›).2.2.2.2.2.2)).mono ?_; rintro y w3 ⟨rfl, h3⟩)
      | (go_at_call_of 38 c; refine (hpc _ _ ((‹_ ∧ _ ∧ _ ∧ _ ∧ _ ∧ _ ∧ Sat B _ _›).2.2.2.2.2.2)).mono ?_; rintro y w4 ⟨rfl, h4⟩))
  obtain ⟨rfl, rfl, rfl, rfl⟩ := Hw.out
  have hA := h4.alloc' (.cells #[.string ⟨(nameL 2).toArray⟩, .string ⟨(wordL r.data.toList).toArray⟩, .string ⟨(wordL c.data.toList).toArray⟩] 9) (n := w4.heap.size) rfl
  have hrow : Sat B (row 9 1 (.slice (some ⟨w4.heap.size, 0, none⟩) 3 3) 3 (strL [nameL 2, wordL r.data.toList, wordL c.data.toList]) :: _) _ := hA.pt_row 3 3 0 (strL [nameL 2, wordL r.data.toList, wordL c.data.toList]) rfl (strL_one _) (Nat.le_refl _) (by unfold maxLen; omega) (by simp) (by simp [strL])
  have Hws := Lib.hid (show opLine 2 r.data.toList c.data.toList v.data.toList has e.data.toList = Lib.join [nameL 2, wordL r.data.toList, wordL c.data.toList] [32] by simp [opLine, opWords])
  have hll : (Lib.join [nameL 2, wordL r.data.toList, wordL c.data.toList] [32]).length ≤ 4000 := by rw [← Hws.out]; exact Hl.out.1
  have hj := pjoin w4.heap.size 0 3 3 [nameL 2, wordL r.data.toList, wordL c.data.toList] rfl (by omega) hll (by omega) (.inr trivial) hrow (by omega)
  clear hA hrow hll hn hpr hpc hpv hpe h0 hK
  go_wp2_with (go_at_call 39; refine hj.mono ?_; rintro y w5 ⟨rfl, h5⟩)
  go_ret2
  exact ⟨by rw [Hws.out]; rfl, h5.drop⟩
set_option maxHeartbeats 4000000 in
set_option maxRecDepth 100000 in
theorem popText_del (hF : EnvF B) (r c v : ByteArray) (has : Bool) (e : ByteArray) (hm : mayOp 3 r.data.toList c.data.toList v.data.toList has e.data.toList = true) (hS : Sat B L w) :
    Calls Tryz.prog 10 #[.agg (opC 3 r c v has e)] w fun y w' => y = .returned (.tuple #[.string ⟨(opLine 3 r.data.toList c.data.toList v.data.toList has e.data.toList).toArray⟩, .int .i64 0]) ∧ Sat B L w' := by
  have hS1 := hS.alloc' (.cells (opC 3 r c v has e) 42) (n := w.heap.size) rfl
  have hr := pright 3 r c v has e hS1
  obtain ⟨l1, l2, l3, l4⟩ := may_len hm
  have hll := line_len hm
  rw [hm] at hr
  have Hl := Lib.hid (And.intro hll (And.intro l3 l4))
  have hr1 : r.size ≤ 35184372088832 := by have : r.data.toList.length = r.size := slenB r; omega
  have hc1 : c.size ≤ 35184372088832 := by have : c.data.toList.length = c.size := slenB c; omega
  have hv1 : v.size ≤ 35184372088832 := by have : v.data.toList.length = v.size := slenB v; omega
  have he1 : e.size ≤ 35184372088832 := by have : e.data.toList.length = e.size := slenB e; omega
  obtain ⟨wr, hwr⟩ : ∃ wr : ByteArray, (⟨(wordL r.data.toList).toArray⟩ : ByteArray) = wr := ⟨_, rfl⟩
  obtain ⟨wc, hwc⟩ : ∃ wc : ByteArray, (⟨(wordL c.data.toList).toArray⟩ : ByteArray) = wc := ⟨_, rfl⟩
  obtain ⟨wv, hwv⟩ : ∃ wv : ByteArray, (⟨(wordL v.data.toList).toArray⟩ : ByteArray) = wv := ⟨_, rfl⟩
  obtain ⟨we, hwe⟩ : ∃ we : ByteArray, (⟨(wordL e.data.toList).toArray⟩ : ByteArray) = we := ⟨_, rfl⟩
  have hn := fun (M : List HP) (w' : World) (h' : Sat B M w') => pname hF 3 h'
  have hpr := fun (M : List HP) (w' : World) (h' : Sat B M w') => pword r hr1 h'
  have hpc := fun (M : List HP) (w' : World) (h' : Sat B M w') => pword c hc1 h'
  have hpv := fun (M : List HP) (w' : World) (h' : Sat B M w') => pword v hv1 h'
  have hpe := fun (M : List HP) (w' : World) (h' : Sat B M w') => pword e he1 h'
  rw [hwr] at hpr
  rw [hwc] at hpc
  rw [hwv] at hpv
  rw [hwe] at hpe
  have Hw := Lib.hid (And.intro hwr (And.intro hwc (And.intro hwv hwe)))
  clear hm hll l1 l2 l3 l4 hwr hwc hwv hwe hr1 hc1 hv1 he1
  go_enter Tryz.func10, Tryz.ntmps10
  go_wp2_with (go_at_call 36; refine hr.mono ?_; rintro y w1 ⟨rfl, h1⟩)
  obtain ⟨b1, hb1⟩ : ∃ b1, w.heap.size = b1 := ⟨_, rfl⟩
  rw [hb1] at h1 ⊢
  clear hb1 hr hS hS1
  have hK : ∀ w', Sat B (pt b1 (.cells (opC 3 r c v has e) 42) :: L) w' → (fun w' => w'.cell? ⟨b1, 0, none⟩ = some (.int .i64 3) ∧ w'.cell? ⟨b1, 1, none⟩ = some (.string r) ∧ w'.cell? ⟨b1, 2, none⟩ = some (.string c) ∧ w'.cell? ⟨b1, 3, none⟩ = some (.string v) ∧ w'.cell? ⟨b1, 4, none⟩ = some (.bool has) ∧ w'.cell? ⟨b1, 5, none⟩ = some (.string e) ∧ Sat B (pt b1 (.cells (opC 3 r c v has e) 42) :: L) w') w' := fun w' h' => ⟨h'.pt_cell 0, h'.pt_cell 1, h'.pt_cell 2, h'.pt_cell 3, h'.pt_cell 4, h'.pt_cell 5, h'⟩
  have h0 := hK _ h1.drew
  go_region_held3 (fun w' => w'.cell? ⟨b1, 0, none⟩ = some (.int .i64 3) ∧ w'.cell? ⟨b1, 1, none⟩ = some (.string r) ∧ w'.cell? ⟨b1, 2, none⟩ = some (.string c) ∧ w'.cell? ⟨b1, 3, none⟩ = some (.string v) ∧ w'.cell? ⟨b1, 4, none⟩ = some (.bool has) ∧ w'.cell? ⟨b1, 5, none⟩ = some (.string e) ∧ Sat B (pt b1 (.cells (opC 3 r c v has e) 42) :: L) w')
    (first | exact h0 | exact hK _ ‹_› | exact hK _ (Sat.drop (Sat.alloc ((‹_ ∧ _ ∧ _ ∧ _ ∧ _ ∧ _ ∧ Sat B _ _›).2.2.2.2.2.2) _)))
    (first
      | (go_at_call 37; refine (hn _ _ ((‹_ ∧ _ ∧ _ ∧ _ ∧ _ ∧ _ ∧ Sat B _ _›).2.2.2.2.2.2)).mono ?_; rintro y w2 ⟨rfl, h2⟩)
      | (go_at_call_of 38 r; refine (hpr _ _ ((‹_ ∧ _ ∧ _ ∧ _ ∧ _ ∧ _ ∧ Sat B _ _›).2.2.2.2.2.2)).mono ?_; rintro y w3 ⟨rfl, h3⟩)
      | (go_at_call_of 38 c; refine (hpc _ _ ((‹_ ∧ _ ∧ _ ∧ _ ∧ _ ∧ _ ∧ Sat B _ _›).2.2.2.2.2.2)).mono ?_; rintro y w4 ⟨rfl, h4⟩))
  obtain ⟨rfl, rfl, rfl, rfl⟩ := Hw.out
  have hA := h4.alloc' (.cells #[.string ⟨(nameL 3).toArray⟩, .string ⟨(wordL r.data.toList).toArray⟩, .string ⟨(wordL c.data.toList).toArray⟩] 9) (n := w4.heap.size) rfl
  have hrow : Sat B (row 9 1 (.slice (some ⟨w4.heap.size, 0, none⟩) 3 3) 3 (strL [nameL 3, wordL r.data.toList, wordL c.data.toList]) :: _) _ := hA.pt_row 3 3 0 (strL [nameL 3, wordL r.data.toList, wordL c.data.toList]) rfl (strL_one _) (Nat.le_refl _) (by unfold maxLen; omega) (by simp) (by simp [strL])
  have Hws := Lib.hid (show opLine 3 r.data.toList c.data.toList v.data.toList has e.data.toList = Lib.join [nameL 3, wordL r.data.toList, wordL c.data.toList] [32] by simp [opLine, opWords])
  have hll : (Lib.join [nameL 3, wordL r.data.toList, wordL c.data.toList] [32]).length ≤ 4000 := by rw [← Hws.out]; exact Hl.out.1
  have hj := pjoin w4.heap.size 0 3 3 [nameL 3, wordL r.data.toList, wordL c.data.toList] rfl (by omega) hll (by omega) (.inr trivial) hrow (by omega)
  clear hA hrow hll hn hpr hpc hpv hpe h0 hK
  go_wp2_with (go_at_call 39; refine hj.mono ?_; rintro y w5 ⟨rfl, h5⟩)
  go_ret2
  exact ⟨by rw [Hws.out]; rfl, h5.drop⟩
set_option maxHeartbeats 4000000 in
set_option maxRecDepth 100000 in
theorem popText_seek (hF : EnvF B) (r c v : ByteArray) (has : Bool) (e : ByteArray) (hm : mayOp 5 r.data.toList c.data.toList v.data.toList has e.data.toList = true) (hS : Sat B L w) :
    Calls Tryz.prog 10 #[.agg (opC 5 r c v has e)] w fun y w' => y = .returned (.tuple #[.string ⟨(opLine 5 r.data.toList c.data.toList v.data.toList has e.data.toList).toArray⟩, .int .i64 0]) ∧ Sat B L w' := by
  have hS1 := hS.alloc' (.cells (opC 5 r c v has e) 42) (n := w.heap.size) rfl
  have hr := pright 5 r c v has e hS1
  obtain ⟨l1, l2, l3, l4⟩ := may_len hm
  have hll := line_len hm
  rw [hm] at hr
  have Hl := Lib.hid (And.intro hll (And.intro l3 l4))
  have hr1 : r.size ≤ 35184372088832 := by have : r.data.toList.length = r.size := slenB r; omega
  have hc1 : c.size ≤ 35184372088832 := by have : c.data.toList.length = c.size := slenB c; omega
  have hv1 : v.size ≤ 35184372088832 := by have : v.data.toList.length = v.size := slenB v; omega
  have he1 : e.size ≤ 35184372088832 := by have : e.data.toList.length = e.size := slenB e; omega
  obtain ⟨wr, hwr⟩ : ∃ wr : ByteArray, (⟨(wordL r.data.toList).toArray⟩ : ByteArray) = wr := ⟨_, rfl⟩
  obtain ⟨wc, hwc⟩ : ∃ wc : ByteArray, (⟨(wordL c.data.toList).toArray⟩ : ByteArray) = wc := ⟨_, rfl⟩
  obtain ⟨wv, hwv⟩ : ∃ wv : ByteArray, (⟨(wordL v.data.toList).toArray⟩ : ByteArray) = wv := ⟨_, rfl⟩
  obtain ⟨we, hwe⟩ : ∃ we : ByteArray, (⟨(wordL e.data.toList).toArray⟩ : ByteArray) = we := ⟨_, rfl⟩
  have hn := fun (M : List HP) (w' : World) (h' : Sat B M w') => pname hF 5 h'
  have hpr := fun (M : List HP) (w' : World) (h' : Sat B M w') => pword r hr1 h'
  have hpc := fun (M : List HP) (w' : World) (h' : Sat B M w') => pword c hc1 h'
  have hpv := fun (M : List HP) (w' : World) (h' : Sat B M w') => pword v hv1 h'
  have hpe := fun (M : List HP) (w' : World) (h' : Sat B M w') => pword e he1 h'
  rw [hwr] at hpr
  rw [hwc] at hpc
  rw [hwv] at hpv
  rw [hwe] at hpe
  have Hw := Lib.hid (And.intro hwr (And.intro hwc (And.intro hwv hwe)))
  clear hm hll l1 l2 l3 l4 hwr hwc hwv hwe hr1 hc1 hv1 he1
  go_enter Tryz.func10, Tryz.ntmps10
  go_wp2_with (go_at_call 36; refine hr.mono ?_; rintro y w1 ⟨rfl, h1⟩)
  obtain ⟨b1, hb1⟩ : ∃ b1, w.heap.size = b1 := ⟨_, rfl⟩
  rw [hb1] at h1 ⊢
  clear hb1 hr hS hS1
  have hK : ∀ w', Sat B (pt b1 (.cells (opC 5 r c v has e) 42) :: L) w' → (fun w' => w'.cell? ⟨b1, 0, none⟩ = some (.int .i64 5) ∧ w'.cell? ⟨b1, 1, none⟩ = some (.string r) ∧ w'.cell? ⟨b1, 2, none⟩ = some (.string c) ∧ w'.cell? ⟨b1, 3, none⟩ = some (.string v) ∧ w'.cell? ⟨b1, 4, none⟩ = some (.bool has) ∧ w'.cell? ⟨b1, 5, none⟩ = some (.string e) ∧ Sat B (pt b1 (.cells (opC 5 r c v has e) 42) :: L) w') w' := fun w' h' => ⟨h'.pt_cell 0, h'.pt_cell 1, h'.pt_cell 2, h'.pt_cell 3, h'.pt_cell 4, h'.pt_cell 5, h'⟩
  have h0 := hK _ h1.drew
  go_region_held3 (fun w' => w'.cell? ⟨b1, 0, none⟩ = some (.int .i64 5) ∧ w'.cell? ⟨b1, 1, none⟩ = some (.string r) ∧ w'.cell? ⟨b1, 2, none⟩ = some (.string c) ∧ w'.cell? ⟨b1, 3, none⟩ = some (.string v) ∧ w'.cell? ⟨b1, 4, none⟩ = some (.bool has) ∧ w'.cell? ⟨b1, 5, none⟩ = some (.string e) ∧ Sat B (pt b1 (.cells (opC 5 r c v has e) 42) :: L) w')
    (first | exact h0 | exact hK _ ‹_› | exact hK _ (Sat.drop (Sat.alloc ((‹_ ∧ _ ∧ _ ∧ _ ∧ _ ∧ _ ∧ Sat B _ _›).2.2.2.2.2.2) _)))
    (first
      | (go_at_call 37; refine (hn _ _ ((‹_ ∧ _ ∧ _ ∧ _ ∧ _ ∧ _ ∧ Sat B _ _›).2.2.2.2.2.2)).mono ?_; rintro y w2 ⟨rfl, h2⟩)
      | (go_at_call_of 38 r; refine (hpr _ _ ((‹_ ∧ _ ∧ _ ∧ _ ∧ _ ∧ _ ∧ Sat B _ _›).2.2.2.2.2.2)).mono ?_; rintro y w3 ⟨rfl, h3⟩)
      | (go_at_call_of 38 c; refine (hpc _ _ ((‹_ ∧ _ ∧ _ ∧ _ ∧ _ ∧ _ ∧ Sat B _ _›).2.2.2.2.2.2)).mono ?_; rintro y w4 ⟨rfl, h4⟩))
  obtain ⟨rfl, rfl, rfl, rfl⟩ := Hw.out
  have hA := h4.alloc' (.cells #[.string ⟨(nameL 5).toArray⟩, .string ⟨(wordL r.data.toList).toArray⟩, .string ⟨(wordL c.data.toList).toArray⟩] 9) (n := w4.heap.size) rfl
  have hrow : Sat B (row 9 1 (.slice (some ⟨w4.heap.size, 0, none⟩) 3 3) 3 (strL [nameL 5, wordL r.data.toList, wordL c.data.toList]) :: _) _ := hA.pt_row 3 3 0 (strL [nameL 5, wordL r.data.toList, wordL c.data.toList]) rfl (strL_one _) (Nat.le_refl _) (by unfold maxLen; omega) (by simp) (by simp [strL])
  have Hws := Lib.hid (show opLine 5 r.data.toList c.data.toList v.data.toList has e.data.toList = Lib.join [nameL 5, wordL r.data.toList, wordL c.data.toList] [32] by simp [opLine, opWords])
  have hll : (Lib.join [nameL 5, wordL r.data.toList, wordL c.data.toList] [32]).length ≤ 4000 := by rw [← Hws.out]; exact Hl.out.1
  have hj := pjoin w4.heap.size 0 3 3 [nameL 5, wordL r.data.toList, wordL c.data.toList] rfl (by omega) hll (by omega) (.inr trivial) hrow (by omega)
  clear hA hrow hll hn hpr hpc hpv hpe h0 hK
  go_wp2_with (go_at_call 39; refine hj.mono ?_; rintro y w5 ⟨rfl, h5⟩)
  go_ret2
  exact ⟨by rw [Hws.out]; rfl, h5.drop⟩
set_option maxHeartbeats 4000000 in
set_option maxRecDepth 100000 in
theorem popText_put (hF : EnvF B) (r c v : ByteArray) (has : Bool) (e : ByteArray) (hm : mayOp 1 r.data.toList c.data.toList v.data.toList has e.data.toList = true) (hS : Sat B L w) :
    Calls Tryz.prog 10 #[.agg (opC 1 r c v has e)] w fun y w' => y = .returned (.tuple #[.string ⟨(opLine 1 r.data.toList c.data.toList v.data.toList has e.data.toList).toArray⟩, .int .i64 0]) ∧ Sat B L w' := by
  have hS1 := hS.alloc' (.cells (opC 1 r c v has e) 42) (n := w.heap.size) rfl
  have hr := pright 1 r c v has e hS1
  obtain ⟨l1, l2, l3, l4⟩ := may_len hm
  have hll := line_len hm
  rw [hm] at hr
  have Hl := Lib.hid (And.intro hll (And.intro l3 l4))
  have hr1 : r.size ≤ 35184372088832 := by have : r.data.toList.length = r.size := slenB r; omega
  have hc1 : c.size ≤ 35184372088832 := by have : c.data.toList.length = c.size := slenB c; omega
  have hv1 : v.size ≤ 35184372088832 := by have : v.data.toList.length = v.size := slenB v; omega
  have he1 : e.size ≤ 35184372088832 := by have : e.data.toList.length = e.size := slenB e; omega
  obtain ⟨wr, hwr⟩ : ∃ wr : ByteArray, (⟨(wordL r.data.toList).toArray⟩ : ByteArray) = wr := ⟨_, rfl⟩
  obtain ⟨wc, hwc⟩ : ∃ wc : ByteArray, (⟨(wordL c.data.toList).toArray⟩ : ByteArray) = wc := ⟨_, rfl⟩
  obtain ⟨wv, hwv⟩ : ∃ wv : ByteArray, (⟨(wordL v.data.toList).toArray⟩ : ByteArray) = wv := ⟨_, rfl⟩
  obtain ⟨we, hwe⟩ : ∃ we : ByteArray, (⟨(wordL e.data.toList).toArray⟩ : ByteArray) = we := ⟨_, rfl⟩
  have hn := fun (M : List HP) (w' : World) (h' : Sat B M w') => pname hF 1 h'
  have hpr := fun (M : List HP) (w' : World) (h' : Sat B M w') => pword r hr1 h'
  have hpc := fun (M : List HP) (w' : World) (h' : Sat B M w') => pword c hc1 h'
  have hpv := fun (M : List HP) (w' : World) (h' : Sat B M w') => pword v hv1 h'
  have hpe := fun (M : List HP) (w' : World) (h' : Sat B M w') => pword e he1 h'
  rw [hwr] at hpr
  rw [hwc] at hpc
  rw [hwv] at hpv
  rw [hwe] at hpe
  have Hw := Lib.hid (And.intro hwr (And.intro hwc (And.intro hwv hwe)))
  clear hm hll l1 l2 l3 l4 hwr hwc hwv hwe hr1 hc1 hv1 he1
  go_enter Tryz.func10, Tryz.ntmps10
  go_wp2_with (go_at_call 36; refine hr.mono ?_; rintro y w1 ⟨rfl, h1⟩)
  obtain ⟨b1, hb1⟩ : ∃ b1, w.heap.size = b1 := ⟨_, rfl⟩
  rw [hb1] at h1 ⊢
  clear hb1 hr hS hS1
  have hK : ∀ w', Sat B (pt b1 (.cells (opC 1 r c v has e) 42) :: L) w' → (fun w' => w'.cell? ⟨b1, 0, none⟩ = some (.int .i64 1) ∧ w'.cell? ⟨b1, 1, none⟩ = some (.string r) ∧ w'.cell? ⟨b1, 2, none⟩ = some (.string c) ∧ w'.cell? ⟨b1, 3, none⟩ = some (.string v) ∧ w'.cell? ⟨b1, 4, none⟩ = some (.bool has) ∧ w'.cell? ⟨b1, 5, none⟩ = some (.string e) ∧ Sat B (pt b1 (.cells (opC 1 r c v has e) 42) :: L) w') w' := fun w' h' => ⟨h'.pt_cell 0, h'.pt_cell 1, h'.pt_cell 2, h'.pt_cell 3, h'.pt_cell 4, h'.pt_cell 5, h'⟩
  have h0 := hK _ h1.drew
  go_region_held3 (fun w' => w'.cell? ⟨b1, 0, none⟩ = some (.int .i64 1) ∧ w'.cell? ⟨b1, 1, none⟩ = some (.string r) ∧ w'.cell? ⟨b1, 2, none⟩ = some (.string c) ∧ w'.cell? ⟨b1, 3, none⟩ = some (.string v) ∧ w'.cell? ⟨b1, 4, none⟩ = some (.bool has) ∧ w'.cell? ⟨b1, 5, none⟩ = some (.string e) ∧ Sat B (pt b1 (.cells (opC 1 r c v has e) 42) :: L) w')
    (first | exact h0 | exact hK _ ‹_› | exact hK _ (Sat.drop (Sat.alloc ((‹_ ∧ _ ∧ _ ∧ _ ∧ _ ∧ _ ∧ Sat B _ _›).2.2.2.2.2.2) _)))
    (first
      | (go_at_call 37; refine (hn _ _ ((‹_ ∧ _ ∧ _ ∧ _ ∧ _ ∧ _ ∧ Sat B _ _›).2.2.2.2.2.2)).mono ?_; rintro y w2 ⟨rfl, h2⟩)
      | (go_at_call_of 38 r; refine (hpr _ _ ((‹_ ∧ _ ∧ _ ∧ _ ∧ _ ∧ _ ∧ Sat B _ _›).2.2.2.2.2.2)).mono ?_; rintro y w3 ⟨rfl, h3⟩)
      | (go_at_call_of 38 c; refine (hpc _ _ ((‹_ ∧ _ ∧ _ ∧ _ ∧ _ ∧ _ ∧ Sat B _ _›).2.2.2.2.2.2)).mono ?_; rintro y w4 ⟨rfl, h4⟩))
  obtain ⟨rfl, rfl, rfl, rfl⟩ := Hw.out
  have hA := h4.alloc' (.cells #[.string ⟨(nameL 1).toArray⟩, .string ⟨(wordL r.data.toList).toArray⟩, .string ⟨(wordL c.data.toList).toArray⟩] 9) (n := w4.heap.size) rfl
  have hrow : Sat B (row 9 1 (.slice (some ⟨w4.heap.size, 0, none⟩) 3 3) 3 (strL [nameL 1, wordL r.data.toList, wordL c.data.toList]) :: _) _ := hA.pt_row 3 3 0 (strL [nameL 1, wordL r.data.toList, wordL c.data.toList]) rfl (strL_one _) (Nat.le_refl _) (by unfold maxLen; omega) (by simp) (by simp [strL])
  have Hws := Lib.hid (show opLine 1 r.data.toList c.data.toList v.data.toList has e.data.toList = Lib.join [nameL 1, wordL r.data.toList, wordL c.data.toList, wordL v.data.toList] [32] by simp [opLine, opWords])
  have hll : (Lib.join [nameL 1, wordL r.data.toList, wordL c.data.toList, wordL v.data.toList] [32]).length ≤ 4000 := by rw [← Hws.out]; exact Hl.out.1
  have hpv2 := hpv _ _ hrow
  clear hA hn hpr hpc hpv hpe h0 hK
  have b1m : 3 + 1 ≤ maxLen := by unfold maxLen; omega
  have b2m : (3 + 1) * 16 ≤ 140737488355328 := by omega
  go_wp2_with (first
    | (go_at_call 38; refine hpv2.mono ?_; rintro y w5 ⟨rfl, h5⟩)
    | (at_builtin; (with_reducible refine wpList_append_row rfl string_elem (.tmp 22) (.tmp 26) rfl _ _ 3 1 _ [.string ⟨(wordL v.data.toList).toArray⟩] rfl rfl ((h5.alloc (.cells #[.string ⟨(wordL v.data.toList).toArray⟩] 9)).swap) (reads_new _ _ rfl (by omega)) rfl (by simp [Value.oneCell']) b1m b2m ?_); intro a6 c6 w6 h6; obtain ⟨g6, o6, hc6, rfl⟩ : ∃ g o, 4 ≤ c6 ∧ a6 = some ⟨g, o, none⟩ := (by rcases h6.row_form with ⟨hx, _⟩ | ⟨g', o', cap, hx, hcap, _⟩; cases hx; cases hx; exact ⟨_, _, hcap, rfl⟩); have hj := pjoin g6 o6 4 c6 [nameL 1, wordL r.data.toList, wordL c.data.toList, wordL v.data.toList] rfl hc6 hll (by omega) (.inr trivial) h6 (by omega); go_frame)
    | (go_at_call 39; refine hj.mono ?_; rintro y w7 ⟨rfl, h7⟩))
  go_ret2
  exact ⟨by rw [Hws.out]; rfl, h7.drop.drop⟩
set_option maxHeartbeats 4000000 in
set_option maxRecDepth 100000 in
theorem popText_none (hF : EnvF B) (r c v : ByteArray) (e : ByteArray) (hm : mayOp 4 r.data.toList c.data.toList v.data.toList false e.data.toList = true) (hS : Sat B L w) :
    Calls Tryz.prog 10 #[.agg (opC 4 r c v false e)] w fun y w' => y = .returned (.tuple #[.string ⟨(opLine 4 r.data.toList c.data.toList v.data.toList false e.data.toList).toArray⟩, .int .i64 0]) ∧ Sat B L w' := by
  have hS1 := hS.alloc' (.cells (opC 4 r c v false e) 42) (n := w.heap.size) rfl
  have hr := pright 4 r c v false e hS1
  obtain ⟨l1, l2, l3, l4⟩ := may_len hm
  have hll := line_len hm
  rw [hm] at hr
  have Hl := Lib.hid (And.intro hll (And.intro l3 l4))
  have hr1 : r.size ≤ 35184372088832 := by have : r.data.toList.length = r.size := slenB r; omega
  have hc1 : c.size ≤ 35184372088832 := by have : c.data.toList.length = c.size := slenB c; omega
  have hv1 : v.size ≤ 35184372088832 := by have : v.data.toList.length = v.size := slenB v; omega
  have he1 : e.size ≤ 35184372088832 := by have : e.data.toList.length = e.size := slenB e; omega
  obtain ⟨wr, hwr⟩ : ∃ wr : ByteArray, (⟨(wordL r.data.toList).toArray⟩ : ByteArray) = wr := ⟨_, rfl⟩
  obtain ⟨wc, hwc⟩ : ∃ wc : ByteArray, (⟨(wordL c.data.toList).toArray⟩ : ByteArray) = wc := ⟨_, rfl⟩
  obtain ⟨wv, hwv⟩ : ∃ wv : ByteArray, (⟨(wordL v.data.toList).toArray⟩ : ByteArray) = wv := ⟨_, rfl⟩
  obtain ⟨we, hwe⟩ : ∃ we : ByteArray, (⟨(wordL e.data.toList).toArray⟩ : ByteArray) = we := ⟨_, rfl⟩
  have hn := fun (M : List HP) (w' : World) (h' : Sat B M w') => pname hF 4 h'
  have hpr := fun (M : List HP) (w' : World) (h' : Sat B M w') => pword r hr1 h'
  have hpc := fun (M : List HP) (w' : World) (h' : Sat B M w') => pword c hc1 h'
  have hpv := fun (M : List HP) (w' : World) (h' : Sat B M w') => pword v hv1 h'
  have hpe := fun (M : List HP) (w' : World) (h' : Sat B M w') => pword e he1 h'
  rw [hwr] at hpr
  rw [hwc] at hpc
  rw [hwv] at hpv
  rw [hwe] at hpe
  have Hw := Lib.hid (And.intro hwr (And.intro hwc (And.intro hwv hwe)))
  clear hm hll l1 l2 l3 l4 hwr hwc hwv hwe hr1 hc1 hv1 he1
  go_enter Tryz.func10, Tryz.ntmps10
  go_wp2_with (go_at_call 36; refine hr.mono ?_; rintro y w1 ⟨rfl, h1⟩)
  obtain ⟨b1, hb1⟩ : ∃ b1, w.heap.size = b1 := ⟨_, rfl⟩
  rw [hb1] at h1 ⊢
  clear hb1 hr hS hS1
  have hK : ∀ w', Sat B (pt b1 (.cells (opC 4 r c v false e) 42) :: L) w' → (fun w' => w'.cell? ⟨b1, 0, none⟩ = some (.int .i64 4) ∧ w'.cell? ⟨b1, 1, none⟩ = some (.string r) ∧ w'.cell? ⟨b1, 2, none⟩ = some (.string c) ∧ w'.cell? ⟨b1, 3, none⟩ = some (.string v) ∧ w'.cell? ⟨b1, 4, none⟩ = some (.bool false) ∧ w'.cell? ⟨b1, 5, none⟩ = some (.string e) ∧ Sat B (pt b1 (.cells (opC 4 r c v false e) 42) :: L) w') w' := fun w' h' => ⟨h'.pt_cell 0, h'.pt_cell 1, h'.pt_cell 2, h'.pt_cell 3, h'.pt_cell 4, h'.pt_cell 5, h'⟩
  have h0 := hK _ h1.drew
  go_region_held3 (fun w' => w'.cell? ⟨b1, 0, none⟩ = some (.int .i64 4) ∧ w'.cell? ⟨b1, 1, none⟩ = some (.string r) ∧ w'.cell? ⟨b1, 2, none⟩ = some (.string c) ∧ w'.cell? ⟨b1, 3, none⟩ = some (.string v) ∧ w'.cell? ⟨b1, 4, none⟩ = some (.bool false) ∧ w'.cell? ⟨b1, 5, none⟩ = some (.string e) ∧ Sat B (pt b1 (.cells (opC 4 r c v false e) 42) :: L) w')
    (first | exact h0 | exact hK _ ‹_› | exact hK _ (Sat.drop (Sat.alloc ((‹_ ∧ _ ∧ _ ∧ _ ∧ _ ∧ _ ∧ Sat B _ _›).2.2.2.2.2.2) _)))
    (first
      | (go_at_call 37; refine (hn _ _ ((‹_ ∧ _ ∧ _ ∧ _ ∧ _ ∧ _ ∧ Sat B _ _›).2.2.2.2.2.2)).mono ?_; rintro y w2 ⟨rfl, h2⟩)
      | (go_at_call_of 38 r; refine (hpr _ _ ((‹_ ∧ _ ∧ _ ∧ _ ∧ _ ∧ _ ∧ Sat B _ _›).2.2.2.2.2.2)).mono ?_; rintro y w3 ⟨rfl, h3⟩)
      | (go_at_call_of 38 c; refine (hpc _ _ ((‹_ ∧ _ ∧ _ ∧ _ ∧ _ ∧ _ ∧ Sat B _ _›).2.2.2.2.2.2)).mono ?_; rintro y w4 ⟨rfl, h4⟩))
  obtain ⟨rfl, rfl, rfl, rfl⟩ := Hw.out
  have hA := h4.alloc' (.cells #[.string ⟨(nameL 4).toArray⟩, .string ⟨(wordL r.data.toList).toArray⟩, .string ⟨(wordL c.data.toList).toArray⟩] 9) (n := w4.heap.size) rfl
  have hrow : Sat B (row 9 1 (.slice (some ⟨w4.heap.size, 0, none⟩) 3 3) 3 (strL [nameL 4, wordL r.data.toList, wordL c.data.toList]) :: _) _ := hA.pt_row 3 3 0 (strL [nameL 4, wordL r.data.toList, wordL c.data.toList]) rfl (strL_one _) (Nat.le_refl _) (by unfold maxLen; omega) (by simp) (by simp [strL])
  have Hws := Lib.hid (show opLine 4 r.data.toList c.data.toList v.data.toList false e.data.toList = Lib.join [nameL 4, wordL r.data.toList, wordL c.data.toList, wordL v.data.toList, [110, 111, 110, 101]] [32] by simp [opLine, opWords])
  have hll : (Lib.join [nameL 4, wordL r.data.toList, wordL c.data.toList, wordL v.data.toList, [110, 111, 110, 101]] [32]).length ≤ 4000 := by rw [← Hws.out]; exact Hl.out.1
  have hpv2 := hpv _ _ hrow
  clear hA hn hpr hpc hpv hpe h0 hK
  have b1m : 3 + 2 ≤ maxLen := by unfold maxLen; omega
  have b2m : (3 + 2) * 16 ≤ 140737488355328 := by omega
  go_wp2_with (first
    | (go_at_call 38; refine hpv2.mono ?_; rintro y w5 ⟨rfl, h5⟩)
    | (at_builtin; (with_reducible refine wpList_append_row rfl string_elem (.tmp 49) (.tmp 53) rfl _ _ 3 2 _ [.string ⟨(wordL v.data.toList).toArray⟩, .string ⟨#[110, 111, 110, 101]⟩] rfl rfl ((h5.alloc (.cells #[.string ⟨(wordL v.data.toList).toArray⟩, .string ⟨#[110, 111, 110, 101]⟩] 9)).swap) (reads_new _ _ rfl (by omega)) rfl (by simp [Value.oneCell']) b1m b2m ?_); intro a6 c6 w6 h6; obtain ⟨g6, o6, hc6, rfl⟩ : ∃ g o, 5 ≤ c6 ∧ a6 = some ⟨g, o, none⟩ := (by rcases h6.row_form with ⟨hx, _⟩ | ⟨g', o', cap, hx, hcap, _⟩; cases hx; cases hx; exact ⟨_, _, hcap, rfl⟩); have hj := pjoin g6 o6 5 c6 [nameL 4, wordL r.data.toList, wordL c.data.toList, wordL v.data.toList, [110, 111, 110, 101]] rfl hc6 hll (by omega) (.inr trivial) h6 (by omega); go_frame)
    | (go_at_call 39; refine hj.mono ?_; rintro y w7 ⟨rfl, h7⟩))
  go_ret2
  exact ⟨by rw [Hws.out]; rfl, h7.drop.drop⟩
set_option maxHeartbeats 4000000 in
set_option maxRecDepth 100000 in
theorem popText_has (hF : EnvF B) (r c v : ByteArray) (e : ByteArray) (hm : mayOp 4 r.data.toList c.data.toList v.data.toList true e.data.toList = true) (hS : Sat B L w) :
    Calls Tryz.prog 10 #[.agg (opC 4 r c v true e)] w fun y w' => y = .returned (.tuple #[.string ⟨(opLine 4 r.data.toList c.data.toList v.data.toList true e.data.toList).toArray⟩, .int .i64 0]) ∧ Sat B L w' := by
  have hS1 := hS.alloc' (.cells (opC 4 r c v true e) 42) (n := w.heap.size) rfl
  have hr := pright 4 r c v true e hS1
  obtain ⟨l1, l2, l3, l4⟩ := may_len hm
  have hll := line_len hm
  rw [hm] at hr
  have Hl := Lib.hid (And.intro hll (And.intro l3 l4))
  have hr1 : r.size ≤ 35184372088832 := by have : r.data.toList.length = r.size := slenB r; omega
  have hc1 : c.size ≤ 35184372088832 := by have : c.data.toList.length = c.size := slenB c; omega
  have hv1 : v.size ≤ 35184372088832 := by have : v.data.toList.length = v.size := slenB v; omega
  have he1 : e.size ≤ 35184372088832 := by have : e.data.toList.length = e.size := slenB e; omega
  obtain ⟨wr, hwr⟩ : ∃ wr : ByteArray, (⟨(wordL r.data.toList).toArray⟩ : ByteArray) = wr := ⟨_, rfl⟩
  obtain ⟨wc, hwc⟩ : ∃ wc : ByteArray, (⟨(wordL c.data.toList).toArray⟩ : ByteArray) = wc := ⟨_, rfl⟩
  obtain ⟨wv, hwv⟩ : ∃ wv : ByteArray, (⟨(wordL v.data.toList).toArray⟩ : ByteArray) = wv := ⟨_, rfl⟩
  obtain ⟨we, hwe⟩ : ∃ we : ByteArray, (⟨(wordL e.data.toList).toArray⟩ : ByteArray) = we := ⟨_, rfl⟩
  have hn := fun (M : List HP) (w' : World) (h' : Sat B M w') => pname hF 4 h'
  have hpr := fun (M : List HP) (w' : World) (h' : Sat B M w') => pword r hr1 h'
  have hpc := fun (M : List HP) (w' : World) (h' : Sat B M w') => pword c hc1 h'
  have hpv := fun (M : List HP) (w' : World) (h' : Sat B M w') => pword v hv1 h'
  have hpe := fun (M : List HP) (w' : World) (h' : Sat B M w') => pword e he1 h'
  rw [hwr] at hpr
  rw [hwc] at hpc
  rw [hwv] at hpv
  rw [hwe] at hpe
  have Hw := Lib.hid (And.intro hwr (And.intro hwc (And.intro hwv hwe)))
  clear hm hll l1 l2 l3 l4 hwr hwc hwv hwe hr1 hc1 hv1 he1
  go_enter Tryz.func10, Tryz.ntmps10
  go_wp2_with (go_at_call 36; refine hr.mono ?_; rintro y w1 ⟨rfl, h1⟩)
  obtain ⟨b1, hb1⟩ : ∃ b1, w.heap.size = b1 := ⟨_, rfl⟩
  rw [hb1] at h1 ⊢
  clear hb1 hr hS hS1
  have hK : ∀ w', Sat B (pt b1 (.cells (opC 4 r c v true e) 42) :: L) w' → (fun w' => w'.cell? ⟨b1, 0, none⟩ = some (.int .i64 4) ∧ w'.cell? ⟨b1, 1, none⟩ = some (.string r) ∧ w'.cell? ⟨b1, 2, none⟩ = some (.string c) ∧ w'.cell? ⟨b1, 3, none⟩ = some (.string v) ∧ w'.cell? ⟨b1, 4, none⟩ = some (.bool true) ∧ w'.cell? ⟨b1, 5, none⟩ = some (.string e) ∧ Sat B (pt b1 (.cells (opC 4 r c v true e) 42) :: L) w') w' := fun w' h' => ⟨h'.pt_cell 0, h'.pt_cell 1, h'.pt_cell 2, h'.pt_cell 3, h'.pt_cell 4, h'.pt_cell 5, h'⟩
  have h0 := hK _ h1.drew
  go_region_held3 (fun w' => w'.cell? ⟨b1, 0, none⟩ = some (.int .i64 4) ∧ w'.cell? ⟨b1, 1, none⟩ = some (.string r) ∧ w'.cell? ⟨b1, 2, none⟩ = some (.string c) ∧ w'.cell? ⟨b1, 3, none⟩ = some (.string v) ∧ w'.cell? ⟨b1, 4, none⟩ = some (.bool true) ∧ w'.cell? ⟨b1, 5, none⟩ = some (.string e) ∧ Sat B (pt b1 (.cells (opC 4 r c v true e) 42) :: L) w')
    (first | exact h0 | exact hK _ ‹_› | exact hK _ (Sat.drop (Sat.alloc ((‹_ ∧ _ ∧ _ ∧ _ ∧ _ ∧ _ ∧ Sat B _ _›).2.2.2.2.2.2) _)))
    (first
      | (go_at_call 37; refine (hn _ _ ((‹_ ∧ _ ∧ _ ∧ _ ∧ _ ∧ _ ∧ Sat B _ _›).2.2.2.2.2.2)).mono ?_; rintro y w2 ⟨rfl, h2⟩)
      | (go_at_call_of 38 r; refine (hpr _ _ ((‹_ ∧ _ ∧ _ ∧ _ ∧ _ ∧ _ ∧ Sat B _ _›).2.2.2.2.2.2)).mono ?_; rintro y w3 ⟨rfl, h3⟩)
      | (go_at_call_of 38 c; refine (hpc _ _ ((‹_ ∧ _ ∧ _ ∧ _ ∧ _ ∧ _ ∧ Sat B _ _›).2.2.2.2.2.2)).mono ?_; rintro y w4 ⟨rfl, h4⟩))
  obtain ⟨rfl, rfl, rfl, rfl⟩ := Hw.out
  have hA := h4.alloc' (.cells #[.string ⟨(nameL 4).toArray⟩, .string ⟨(wordL r.data.toList).toArray⟩, .string ⟨(wordL c.data.toList).toArray⟩] 9) (n := w4.heap.size) rfl
  have hrow : Sat B (row 9 1 (.slice (some ⟨w4.heap.size, 0, none⟩) 3 3) 3 (strL [nameL 4, wordL r.data.toList, wordL c.data.toList]) :: _) _ := hA.pt_row 3 3 0 (strL [nameL 4, wordL r.data.toList, wordL c.data.toList]) rfl (strL_one _) (Nat.le_refl _) (by unfold maxLen; omega) (by simp) (by simp [strL])
  have Hws := Lib.hid (show opLine 4 r.data.toList c.data.toList v.data.toList true e.data.toList = Lib.join [nameL 4, wordL r.data.toList, wordL c.data.toList, wordL v.data.toList, [104, 97, 115], wordL e.data.toList] [32] by simp [opLine, opWords])
  have hll : (Lib.join [nameL 4, wordL r.data.toList, wordL c.data.toList, wordL v.data.toList, [104, 97, 115], wordL e.data.toList] [32]).length ≤ 4000 := by rw [← Hws.out]; exact Hl.out.1
  have b1m : 3 + 3 ≤ maxLen := by unfold maxLen; omega
  have b2m : (3 + 3) * 16 ≤ 140737488355328 := by omega
  clear hA hn hpr hpc h0 hK
  go_wp2_with fail
  have hrd := hrow.drew
  go_region_law (first
    | (refine step_append_row rfl string_elem (.tmp 36) (.tmp 43) rfl _ _ 3 3 _ [.string ⟨(wordL v.data.toList).toArray⟩, .string ⟨#[104, 97, 115]⟩, .string ⟨(wordL e.data.toList).toArray⟩] rfl rfl ((h6.alloc (.cells #[.string ⟨(wordL v.data.toList).toArray⟩, .string ⟨#[104, 97, 115]⟩, .string ⟨(wordL e.data.toList).toArray⟩] 9)).swap) (reads_new _ _ rfl (by omega)) rfl (by simp [Value.oneCell']) b1m b2m ?_; intro a7 c7 w7 h7)
    | (go_simp; go_at_call_of 38 v; refine (hpv _ _ hrd).mono ?_; rintro y w5 ⟨rfl, h5⟩; have z5 : w5.cell? ⟨b1, 5, none⟩ = some (.string e) := h5.swap.pt_cell 5)
    | (go_simp; go_at_call_of 38 e; refine (hpe _ _ h5).mono ?_; rintro y w6 ⟨rfl, h6⟩))
  all_goals
    obtain ⟨g7, o7, hc7, rfl⟩ : ∃ g o, 6 ≤ c7 ∧ a7 = some ⟨g, o, none⟩ := (by rcases h7.row_form with ⟨hx, _⟩ | ⟨g', o', cap, hx, hcap, _⟩; cases hx; cases hx; exact ⟨_, _, hcap, rfl⟩)
    have hj := pjoin g7 o7 6 c7 [nameL 4, wordL r.data.toList, wordL c.data.toList, wordL v.data.toList, [104, 97, 115], wordL e.data.toList] rfl hc7 hll (by omega) (.inr trivial) h7 (by omega)
    go_wp2_with (go_at_call 39; refine hj.mono ?_; rintro y w8 ⟨rfl, h8⟩)
    go_ret2
    exact ⟨by rw [Hws.out]; rfl, h8.drop.drop⟩
/-- script.OpText, at any operation. -/
theorem popText (hF : EnvF B) (k : Int) (r c v : ByteArray) (has : Bool) (e : ByteArray) (hS : Sat B L w) :
    Calls Tryz.prog 10 #[.agg (opC k r c v has e)] w fun y w' => y = .returned (if mayOp k r.data.toList c.data.toList v.data.toList has e.data.toList = true then .tuple #[.string ⟨(opLine k r.data.toList c.data.toList v.data.toList has e.data.toList).toArray⟩, .int .i64 0] else .tuple #[.string ⟨#[]⟩, .int .i64 2]) ∧ Sat B L w' := by
  by_cases hm : mayOp k r.data.toList c.data.toList v.data.toList has e.data.toList = true
  · rw [if_pos hm]
    have hk : k = 1 ∨ k = 2 ∨ k = 3 ∨ k = 4 ∨ k = 5 := by
      have := hm
      simp only [mayOp, Bool.and_eq_true, decide_eq_true_eq] at this
      obtain ⟨⟨⟨⟨⟨⟨⟨h1, _⟩, _⟩, _⟩, _⟩, _⟩, _⟩, _⟩ := this
      split at h1
      · omega
      · simp at h1; omega
    rcases hk with rfl | rfl | rfl | rfl | rfl
    · exact popText_put hF r c v has e hm hS
    · exact popText_get hF r c v has e hm hS
    · exact popText_del hF r c v has e hm hS
    · cases has
      · exact popText_none hF r c v e hm hS
      · exact popText_has hF r c v e hm hS
    · exact popText_seek hF r c v has e hm hS
  · rw [if_neg hm]
    exact popText_bad k r c v has e (by simpa using hm) hS
end
end Go.Proofs.YtcjindifdghpgaaGreatDoor
